/- A region whose order is open: a first part of quiet operations, beside one that makes memory at any moment; what is left is walked in each order by itself. -/
import Derived.Test.YtmmofanfgoahkaaGreatDoorMake
namespace Go.X
open Go
section
variable {P : Program} {r : Option Nat} {w0 : World} {B : List Nat} {n : Nat} {Q : Post} {e : Env} {ds : List Deferred} {L : Heap}

/-- What is left of a region, where those of D have been carried out. -/
structure XG (P : Program) (r : Option Nat) (w0 : World) (B : List Nat) (n : Nat) (ops : Array Oper) (D : Array Bool) (Q : Post) (e : Env) (ds : List Deferred) (L : Heap) : Prop where
  run : ∀ a w, Sit w0 B n e ds L a w → wpAnyIn (FW r) 0 P .any ops Q (cnt (inD D) ops.size) D a w
theorem XE.toG {ops : Array Oper} {D : Array Bool} (h : XG P r w0 B n ops D Q e ds L) : XE w0 B n .normal (Exit.then (fun a w => wpAnyIn (FW r) 0 P .any ops Q (cnt (inD D) ops.size) D a w) Q) e ds L := ⟨fun a w hs => h.run a w hs⟩
theorem XG.done {ops : Array Oper} {D : Array Bool} (hr : Region.ready .any ops D = []) (hc : cnt (inD D) ops.size = 0) (h : XE w0 B n .normal Q e ds L) : XG P r w0 B n ops D Q e ds L := by
  refine ⟨fun a w hs => ?_⟩
  rw [hc]
  exact ⟨hr, h.run a w hs⟩
theorem XG.step {ops : Array Oper} {D : Array Bool} (R : List Nat) (hR : Region.ready .any ops D = R) (hs : Nat.beq D.size ops.size = true) (hne : R.isEmpty = false)
    (h : ∀ i ∈ R, ∃ o, ops.toList[i]? = some o ∧ XL P r w0 B n ops [o] (Exit.then (fun a w => wpAnyIn (FW r) 0 P .any ops Q (cnt (inD (D.setIfInBounds i true)) ops.size) (D.setIfInBounds i true) a w) Q) e ds L) : XG P r w0 B n ops D Q e ds L := by
  have hs := Nat.eq_of_beq_eq_true hs
  refine ⟨fun a w hsit => ?_⟩
  obtain ⟨j, hj⟩ : ∃ j, j ∈ R := by cases R with
    | nil => cases hne
    | cons j R => exact ⟨j, .head _⟩
  have cs : ∀ i ∈ R, i < ops.size ∧ cnt (inD D) ops.size = cnt (inD (D.setIfInBounds i true)) ops.size + 1 := by
    intro i hi
    obtain ⟨hi1, hi2⟩ := ready_lt hs (hR ▸ hi)
    refine ⟨hi1, cnt_set ops.size hi1 hi2 (by rw [inD_set (by omega)]; simp) (fun q hq => by rw [inD_set (by omega)]; simp [hq])⟩
  rw [(cs j hj).2]
  refine ⟨fun hr => ?_, fun i hi => ?_⟩
  · rw [hR] at hr; rw [hr] at hne; cases hne
  · rw [hR] at hi
    obtain ⟨o, ho, hx⟩ := h i hi
    have ho' : ops[i]? = some o := by simpa using ho
    have hc : cnt (inD (D.setIfInBounds j true)) ops.size = cnt (inD (D.setIfInBounds i true)) ops.size := by have := (cs i hi).2; have := (cs j hj).2; omega
    rw [hc]
    have h1 := hx.run a w hsit
    unfold wpOpIn
    simp only [ho']
    simp only [wpListIn] at h1
    split
    · rename_i hw
      rw [if_pos hw] at h1
      exact wpIn_then h1
    · rename_i hw
      rw [if_neg hw] at h1
      exact h1

theorem XG.s1 {ops : Array Oper} {D : Array Bool} {o : Oper} (i : Nat) (hR : Region.ready .any ops D = [i]) (hs : Nat.beq D.size ops.size = true) (ho : ops.toList[i]? = some o)
    (h : XL P r w0 B n ops [o] (Exit.then (fun a w => wpAnyIn (FW r) 0 P .any ops Q (cnt (inD (D.setIfInBounds i true)) ops.size) (D.setIfInBounds i true) a w) Q) e ds L) : XG P r w0 B n ops D Q e ds L :=
  .step [i] hR hs rfl fun j hj => by rw [List.mem_singleton.1 hj]; exact ⟨o, ho, h⟩
theorem XG.s2 {ops : Array Oper} {D : Array Bool} {o o' : Oper} (i i' : Nat) (hR : Region.ready .any ops D = [i, i']) (hs : Nat.beq D.size ops.size = true) (ho : ops.toList[i]? = some o) (ho' : ops.toList[i']? = some o')
    (h : XL P r w0 B n ops [o] (Exit.then (fun a w => wpAnyIn (FW r) 0 P .any ops Q (cnt (inD (D.setIfInBounds i true)) ops.size) (D.setIfInBounds i true) a w) Q) e ds L)
    (h' : XL P r w0 B n ops [o'] (Exit.then (fun a w => wpAnyIn (FW r) 0 P .any ops Q (cnt (inD (D.setIfInBounds i' true)) ops.size) (D.setIfInBounds i' true) a w) Q) e ds L) : XG P r w0 B n ops D Q e ds L :=
  .step [i, i'] hR hs rfl fun j hj => by
    rcases List.mem_cons.1 hj with rfl | hj
    · exact ⟨o, ho, h⟩
    · rw [List.mem_singleton.1 hj]; exact ⟨o', ho', h'⟩
theorem XG.s3 {ops : Array Oper} {D : Array Bool} {o o' o'' : Oper} (i i' i'' : Nat) (hR : Region.ready .any ops D = [i, i', i'']) (hs : Nat.beq D.size ops.size = true) (ho : ops.toList[i]? = some o) (ho' : ops.toList[i']? = some o') (ho'' : ops.toList[i'']? = some o'')
    (h : XL P r w0 B n ops [o] (Exit.then (fun a w => wpAnyIn (FW r) 0 P .any ops Q (cnt (inD (D.setIfInBounds i true)) ops.size) (D.setIfInBounds i true) a w) Q) e ds L)
    (h' : XL P r w0 B n ops [o'] (Exit.then (fun a w => wpAnyIn (FW r) 0 P .any ops Q (cnt (inD (D.setIfInBounds i' true)) ops.size) (D.setIfInBounds i' true) a w) Q) e ds L)
    (h'' : XL P r w0 B n ops [o''] (Exit.then (fun a w => wpAnyIn (FW r) 0 P .any ops Q (cnt (inD (D.setIfInBounds i'' true)) ops.size) (D.setIfInBounds i'' true) a w) Q) e ds L) : XG P r w0 B n ops D Q e ds L :=
  .step [i, i', i''] hR hs rfl fun j hj => by
    rcases List.mem_cons.1 hj with rfl | hj
    · exact ⟨o, ho, h⟩
    · rcases List.mem_cons.1 hj with rfl | hj
      · exact ⟨o', ho', h'⟩
      · rw [List.mem_singleton.1 hj]; exact ⟨o'', ho'', h''⟩

/-! ### The first part -/
def QA (P : Program) (r : Option Nat) (w0 : World) (B : List Nat) (n : Nat) (ds : List Deferred) (L : Heap) : List Oper → Env → Env → Prop
  | [], e, e' => e = e'
  | o :: l, e, e' => ∃ d v, o.dst = some d ∧ Nat.blt d n = true ∧ o.guard = none ∧ Quiet P r w0 B n ds L o.op o.type e v ∧ QA P r w0 B n ds L l ((d, v) :: e) e'
theorem QA.get : ∀ {l : List Oper} {e e' : Env}, QA P r w0 B n ds L l e e' →
    ∃ (dst : Nat → Nat) (val : Nat → Value), (∀ i o, l[i]? = some o → o.dst = some (dst i) ∧ Nat.blt (dst i) n = true ∧ o.guard = none ∧ Quiet P r w0 B n ds L o.op o.type (Ei dst (fun i => .det (val i)) e i) (val i)) ∧ e' = Ei dst (fun i => .det (val i)) e l.length
  | [], e, e', h => ⟨fun _ => 0, fun _ => undef, fun i o ho => by simp at ho, h.symm⟩
  | o :: l, e, e', h => by
    obtain ⟨d, v, h1, h2, h3, h4, hr⟩ := h
    obtain ⟨dst, val, h5, h6⟩ := QA.get hr
    have hsh : ∀ i, Ei (fun k => match k with | 0 => d | k + 1 => dst k) (fun i => .det ((fun k => match k with | 0 => v | k + 1 => val k : Nat → Value) i)) e (i + 1) = Ei dst (fun i => .det (val i)) ((d, v) :: e) i := by
      intro i
      induction i with
      | zero => rfl
      | succ i ih =>
        show (El.det (val i)).env (dst i) (Ei _ _ e (i + 1)) = (El.det (val i)).env (dst i) (Ei dst _ ((d, v) :: e) i)
        rw [ih]
    refine ⟨fun k => match k with | 0 => d | k + 1 => dst k, fun k => match k with | 0 => v | k + 1 => val k, ?_, ?_⟩
    · intro i o' ho'
      cases i with
      | zero => simp at ho'; subst ho'; exact ⟨h1, h2, h3, h4⟩
      | succ i =>
        simp at ho'
        have := h5 i o' ho'
        rw [hsh]
        exact this
    · rw [h6, List.length_cons, hsh]
/-- whatever stands from m on, other than q, waits for all that stands ahead of m -/
def cutF (ops : Array Oper) (m q : Nat) : Bool :=
  let l := ops.toList
  let bs := masks l
  (List.range l.length).all fun j => Nat.blt j m || Nat.beq j q || Nat.beq (Nat.land (bs.getD j 0) (2 ^ m - 1)) (2 ^ m - 1)
theorem cutF_get {ops : Array Oper} {m q : Nat} (h : cutF ops m q = true) {i j : Nat} (hj : j < ops.toList.length) (hi : i < m) (hk : m ≤ j) (hq : j ≠ q) : i ∈ (befs ops.toList).getD j [] := by
  simp only [cutF, List.all_eq_true, List.mem_range, Bool.or_eq_true] at h
  rcases h j hj with (h1 | h1) | h1
  · have : j < m := by simpa [Nat.blt_eq] using h1
    omega
  · exact absurd (Nat.eq_of_beq_eq_true h1) hq
  · have h2 : (masks ops.toList).getD j 0 &&& (2 ^ m - 1) = 2 ^ m - 1 := Nat.eq_of_beq_eq_true h1
    refine mem_befs.2 ⟨by omega, ?_⟩
    have h3 := congrArg (Nat.testBit · i) h2
    simp only [Nat.testBit_and, Nat.testBit_two_pow_sub_one, decide_eq_true hi, Bool.and_true] at h3
    exact h3
/-- the first part, as it is walked: m is its length, and q the place of the one beside it -/
structure XA (P : Program) (r : Option Nat) (w0 : World) (B : List Nat) (n : Nat) (ops : Array Oper) (m q dq : Nat) (l : List Oper) (Q : Post) (e : Env) (ds : List Deferred) (L : Heap) (Φ : Value → Heap → Prop) : Prop where
  parts : ∃ l1 l2 e', l = l1 ++ l2 ∧ ops.size - l2.length = m ∧ l2.length ≤ ops.size ∧ QA P r w0 B n ds L l1 e e' ∧ get e' dq = none ∧
    (∀ D : Array Bool, D.size = ops.size → (∀ i, i < ops.size → inD D i = decide (i < m)) → XG P r w0 B n ops D Q e' ds L) ∧
    (∀ D : Array Bool, D.size = ops.size → (∀ i, i < ops.size → inD D i = decide (i < m ∨ i = q)) → ∀ v H, Φ v H → XG P r w0 B n ops D Q ((dq, v) :: e') ds (H ++ L))
variable {m q dq : Nat} {Φ : Value → Heap → Prop}
theorem XA.st {ops : Array Oper} {rest : List Oper} {d : Nat} {op : Op} {ty : TypeId} {pos : String} {af : Array Edge} {v : Value}
    (hq : Quiet P r w0 B n ds L op ty e v) (hd : Nat.blt d n = true) (h : XA P r w0 B n ops m q dq rest Q ((d, v) :: e) ds L Φ) : XA P r w0 B n ops m q dq (⟨some d, op, ty, pos, af, none⟩ :: rest) Q e ds L Φ := by
  obtain ⟨l1, l2, e', rfl, h1, h2, h3, h4⟩ := h.parts
  exact ⟨_ :: l1, l2, e', rfl, h1, h2, ⟨d, v, rfl, hd, rfl, hq, h3⟩, h4⟩
/-- the done ones, as an array -/
def doneA (n : Nat) (f : Nat → Bool) : Array Bool := ((List.range n).map f).toArray
theorem doneA_eq {D : Array Bool} {n : Nat} {f : Nat → Bool} (hs : D.size = n) (h : ∀ i, i < n → inD D i = f i) : D = doneA n f := by
  refine Array.ext (by simp [doneA, hs]) fun i h1 h2 => ?_
  have := h i (by omega)
  simp only [inD, Array.getD_eq_getD_getElem?, Array.getElem?_eq_getElem h1, Option.getD_some] at this
  simp [doneA, this]
theorem XA.last {ops : Array Oper} {l : List Oper} (hl : Nat.ble l.length ops.size = true) (hm : Nat.beq (ops.size - l.length) m = true) (hn : get e dq = none)
    (h0 : XG P r w0 B n ops (doneA ops.size fun i => Nat.blt i m) Q e ds L) (h1 : ∀ v H, Φ v H → XG P r w0 B n ops (doneA ops.size fun i => Nat.blt i m || Nat.beq i q) Q ((dq, v) :: e) ds (H ++ L)) :
    XA P r w0 B n ops m q dq l Q e ds L Φ := by
  refine ⟨[], l, e, rfl, Nat.eq_of_beq_eq_true hm, Nat.le_of_ble_eq_true hl, rfl, hn, fun D hs hD => ?_, fun D hs hD v H hφ => ?_⟩
  · have : D = doneA ops.size fun i => Nat.blt i m := doneA_eq hs fun i hi => by
      rw [hD i hi]
      cases hb : Nat.blt i m with
      | true => simpa [Nat.blt_eq] using hb
      | false =>
        simp only [decide_eq_false_iff_not]
        intro hc
        rw [Nat.blt_eq.mpr hc] at hb
        cases hb
    rw [this]; exact h0
  · have : D = doneA ops.size fun i => Nat.blt i m || Nat.beq i q := doneA_eq hs fun i hi => by
      rw [hD i hi]
      by_cases h1 : i < m
      · simp [h1, Nat.blt_eq.mpr h1]
      · have hb : Nat.blt i m = false := by
          cases hb : Nat.blt i m with
          | false => rfl
          | true => exact absurd (Nat.blt_eq.mp hb) h1
        rw [hb]
        by_cases h2 : i = q
        · subst h2; simp
        · have hq : Nat.beq i q = false := by
            cases hq : Nat.beq i q with
            | false => rfl
            | true => exact absurd (Nat.eq_of_beq_eq_true hq) h2
          rw [hq]; simp [h1, h2]
    rw [this]; exact h1 v H hφ

theorem doneA_blt {D : Array Bool} {n k : Nat} (hs : D.size = n) (h : ∀ i, i < n → inD D i = decide (i < k)) : D = doneA n fun i => Nat.blt i k := doneA_eq hs fun i hi => by
  rw [h i hi]
  cases hb : Nat.blt i k with
  | true => simpa [Nat.blt_eq] using hb
  | false =>
    simp only [decide_eq_false_iff_not]
    intro hc
    rw [Nat.blt_eq.mpr hc] at hb
    cases hb
theorem XR.ofG {ops : Array Oper} {l : List Oper} (h : XG P r w0 B n ops (doneA ops.size fun i => Nat.blt i (ops.size - l.length)) Q e ds L) : XR P r w0 B n ops l Q e ds L :=
  ⟨fun _ _ a w hs D hD hin => by
    have := doneA_blt hD hin
    rw [this]
    exact h.run a w hs⟩
/-- what is left behind a phase is walked in each order by itself -/
theorem XD.tailG1 {ops : Array Oper} {l : List Oper} {s : Nat} {Φ : Value → Heap → Prop} (he : edgesOk ops = true) (hp : pairOk ops 0 (ops.size - l.length) = true) (hc : cutOk ops (ops.size - l.length) = true)
    (h : ∀ v H, Φ v H → XG P r w0 B n ops (doneA ops.size fun i => Nat.blt i (ops.size - l.length)) Q ((s, v) :: e) ds (H ++ L)) : XD P r w0 B n ops l Q e ds L [(s, Φ)] none :=
  .toR he hp hc fun v H hφ => .ofG (h v H hφ)
/-- A first part, in whatever order, beside the one that makes memory. -/
theorem XA.run {ops : Array Oper} {l : List Oper} {opq : Op} {tyq : TypeId} {posq : String} (hl : ops.toList = l) (hedge : edgesOk ops = true) (hpair : pairOk ops 0 m = true) (hcut : cutF ops m q = true)
    (hqo : ops.toList[q]? = some ⟨some dq, opq, tyq, posq, #[], none⟩) (hqm : Nat.ble m q = true) (hqn : Nat.blt dq n = true)
    (hoff : ((ops.toList.take m).all fun o => match o.dst with | some d => !(Nat.beq d dq) | none => true) = true)
    (hmk : Makes P r w0 B n ds L opq tyq [] Φ) (h : XA P r w0 B n ops m q dq l Q e ds L Φ) : XR P r w0 B n ops ops.toList Q e ds L := by
  refine ⟨fun _ _ a w hs => ?_⟩
  have hqm : m ≤ q := Nat.le_of_ble_eq_true hqm
  obtain ⟨l1, l2, e', hl2, hm2, hle, hqa, hnone, h0, h1⟩ := h.parts
  rw [hl2] at hl
  obtain ⟨dst, val, hst, he'⟩ := hqa.get
  have hlen : ops.toList.length = ops.size := by simp
  have hm1 : l1.length = m := by have := congrArg List.length hl; simp at this; omega
  have hat : ∀ i, i < m → ∀ o, ops.toList[i]? = some o → l1[i]? = some o := fun i hi o ho => by
    rw [hl, List.getElem?_append_left (by omega)] at ho
    exact ho
  have hback := edgesOk_back hedge
  have hget : ∀ {i : Nat} (hi : i < ops.size), ops.toList[i]? = some (ops.toList[i]'(hlen.symm ▸ hi)) := fun hi => List.getElem?_eq_getElem _
  have hmle : m ≤ ops.size := by omega
  have hqs : q < ops.size := by have := (List.getElem?_eq_some_iff.1 hqo).1; omega
  have hoffq : ∀ i, i < m → dst i ≠ dq := by
    intro i hi
    have hio := hget (show i < ops.size by omega)
    have h1 := (hst i _ (hat i hi _ hio)).1
    have h2 := List.all_eq_true.1 hoff (ops.toList[i]'(by omega)) (List.mem_iff_getElem?.2 ⟨i, by rw [List.getElem?_take_of_lt hi]; exact hio⟩)
    rw [h1] at h2
    intro hc
    rw [hc] at h2
    simp at h2
  have hel : ∀ {i : Nat}, (fun i => El.det (val i)) i = .det (val i) := fun {i} => rfl
  have hen : ∀ D, view dst (fun i => .det (val i)) e D dq m = none := by
    have hn' : X.get e dq = none := by
      rw [he', get_Ei] at hnone
      have : ∀ p, view dst (fun i => .det (val i)) e (fun _ => true) dq p = none → X.get e dq = none := fun p => by
        induction p with
        | zero => exact id
        | succ p ih =>
          intro h
          simp only [view] at h
          split at h
          · cases h
          · exact ih h
      exact this _ hnone
    intro D
    exact view_none hn' m fun i v hi _ => hoffq i hi
  let Low : Array Bool → Act → World → Prop := fun D a w => (∀ s v, view dst (fun i => .det (val i)) e (inD D) s m = some v → a.tmps[s]? = some v) ∧
    ((inD D q = false ∧ Sit w0 B n [] ds L a w) ∨ (inD D q = true ∧ ∃ v H, Φ v H ∧ a.tmps[dq]? = some v ∧ Sit w0 B n [] ds (H ++ L) a w))
  have main : ∀ fuel D a w, cnt (inD D) ops.size = fuel → D.size = ops.size → (∀ j o, ops.toList[j]? = some o → inD D j = true → ∀ x ∈ o.after.toList, Region.binds .any x = true → inD D x.on = true) →
      (∀ i, m ≤ i → i ≠ q → inD D i = false) → Low D a w → wpAnyIn (FW r) 0 P .any ops Q fuel D a w := by
    intro fuel
    -- the part is done
    have fin : ∀ D a w, D.size = ops.size → (∀ i, m ≤ i → i ≠ q → inD D i = false) → (∀ i, i < m → inD D i = true) → Low D a w → wpAnyIn (FW r) 0 P .any ops Q (cnt (inD D) ops.size) D a w := by
      intro D a w hsz hhi hdone ⟨hv, hq⟩
      have henv : ∀ s v, X.get e' s = some v → a.tmps[s]? = some v := fun s v hg => hv s v (by
        rw [he', hm1, get_Ei] at hg; rw [← hg]; exact view_agree m fun i hi _ => hdone i hi)
      rcases hq with ⟨hq, hsit⟩ | ⟨hq, v, H, hφ, ht, hsit⟩
      · refine (h0 D hsz fun i hi => ?_).run a w (hsit.setEnv henv)
        by_cases h1 : i < m
        · rw [hdone i h1]; simp [h1]
        · by_cases h2 : i = q
          · rw [h2, hq]; simp; omega
          · rw [hhi i (by omega) h2]; simp [h1]
      · refine (h1 D hsz (fun i hi => ?_) v H hφ).run a w (hsit.setEnv fun i u hg => ?_)
        · by_cases h1 : i < m
          · rw [hdone i h1]; simp [h1]
          · by_cases h2 : i = q
            · subst h2; rw [hq]; simp
            · rw [hhi i (by omega) h2]; simp [h1, h2]
        · rcases get_cons.1 hg with ⟨rfl, rfl⟩ | ⟨_, hg⟩
          · exact ht
          · exact henv i u hg
    induction fuel with
    | zero =>
      intro D a w hc hsz hcl hhi hlow
      have hall := cnt_zero hc
      have := fin D a w hsz hhi (fun i hi => hall i (by omega)) hlow
      rwa [hc] at this
    | succ fuel ih =>
      intro D a w hc hsz hcl hhi hlow
      by_cases hdone : ∀ i, i < m → inD D i = true
      · have := fin D a w hsz hhi hdone hlow
        rwa [hc] at this
      constructor
      · intro hr
        exfalso
        rcases first_false (f := inD D) ops.size with h | ⟨j, h1, h2, h3⟩
        · rw [cnt_all h] at hc; omega
        · have : j ∈ Region.ready .any ops D := (mem_ready hsz).2 ⟨_, hget h1, h2, fun x hx hb => h3 _ (hback j _ (hget h1) x hx hb)⟩
          rw [hr] at this; cases this
      · intro j hj
        obtain ⟨hjs, hjD⟩ := ready_lt hsz hj
        obtain ⟨o, ho, _, hedges⟩ := (mem_ready hsz).1 hj
        have hbef := ready_befs hedge hsz hcl hj
        have hclosed := befs_closed hcl hback
        have hsetD : ∀ q, inD (D.setIfInBounds j true) q = if q = j then true else inD D q := fun q => inD_set (by omega)
        have hcnt : cnt (inD (D.setIfInBounds j true)) ops.size = fuel := by
          have := cnt_set (f := inD D) ops.size hjs hjD (g := inD (D.setIfInBounds j true)) (by rw [hsetD]; simp) (fun q hq => by rw [hsetD]; simp [hq])
          omega
        have hcl' : ∀ i o', ops.toList[i]? = some o' → inD (D.setIfInBounds j true) i = true → ∀ x ∈ o'.after.toList, Region.binds .any x = true → inD (D.setIfInBounds j true) x.on = true := by
          intro i o' hi hD x hx hb
          rw [hsetD] at hD ⊢
          by_cases hij : i = j
          · subst hij
            have : o' = o := by rw [ho] at hi; exact (Option.some.inj hi).symm
            subst this
            rw [hedges x hx hb]; simp
          · rw [if_neg hij] at hD; rw [hcl i o' hi hD x hx hb]; simp
        have ho' : ops[j]? = some o := by simpa using ho
        obtain ⟨hview, hq⟩ := hlow
        have hsz0 : a.tmps.size = n := by rcases hq with ⟨_, hs⟩ | ⟨_, _, _, _, _, hs⟩ <;> exact hs.sz
        by_cases hjq : j = q
        · -- memory is made
          subst hjq
          have hoq : o = ⟨some dq, opq, tyq, posq, #[], none⟩ := by rw [ho] at hqo; exact Option.some.inj hqo
          subst hoq
          rcases hq with ⟨_, hsit⟩ | ⟨hq, _⟩
          · have hlt : dq < a.tmps.size := by rw [hsz0]; simpa [Nat.blt_eq] using hqn
            unfold wpOpIn
            simp only [ho']
            rw [if_pos (by simp [Region.wanted])]
            refine hmk.at_ (some dq) posq #[] none a w (hsit.sub fun i v h => by simp [restr, X.get] at h) _ _ fun v H w' hφ hkp hown hfresh => ?_
            refine ih _ _ _ hcnt (by simp [hsz]) hcl' (fun i hi hne => by rw [hsetD, if_neg hne, hhi i hi hne]) ⟨?_, .inr ⟨by rw [hsetD]; simp, v, H, hφ, by rw [put_get? hlt, if_pos rfl], ?_⟩⟩
            · intro s u hu
              have hag : view dst (fun i => .det (val i)) e (inD (D.setIfInBounds j true)) s m = view dst (fun i => .det (val i)) e (inD D) s m := view_agree m fun i hi _ => by rw [hsetD, if_neg (by omega)]
              rw [hag] at hu
              have hne : s ≠ dq := fun e2 => by subst e2; rw [hen] at hu; cases hu
              rw [put_get? hlt, if_neg hne]
              exact hview s u hu
            · have h1 : Sit w0 B n [] ds (H ++ L) a w' := by
                refine hsit.step hkp (fun _ h => by cases h) (hown.append (hsit.own.of_kept hkp (fun _ _ h => by cases h)) fun b hb hm => ?_) (fun b hb => ?_)
                · have := hsit.own.live b hm
                  have := hfresh b hb
                  omega
                · rw [ids_append] at hb
                  rcases List.mem_append.1 hb with hb | hb
                  · exact .inr (hfresh b hb)
                  · exact .inl hb
              exact (h1.put (v := v) hqn).setEnv fun i v h => by simp [X.get] at h
          · rw [hjD] at hq; cases hq
        · have hjm : j < m := by
            rcases Nat.lt_or_ge j m with h1 | h1
            · exact h1
            · exact absurd (fun i hi => hbef _ (cutF_get hcut (by omega) hi h1 hjq)) hdone
          obtain ⟨hod, hdn, hgd, hquiet⟩ := hst j o (hat j hjm o ho)
          have hlt : dst j < a.tmps.size := by rw [hsz0]; simpa [Nat.blt_eq] using hdn
          have hord : ∀ i, i < m → i ≠ j → ∀ x, ops.toList[i]? = some x → clash ops x o = true → inD D i = decide (i < j) := by
            intro i hi hne x hx hcl2
            rcases Nat.lt_or_gt_of_ne hne with hlt | hgt
            · rcases pairOk_get hpair (i := i) (j := j) (by rw [Nat.zero_add]; exact hx) (by rw [Nat.zero_add]; exact ho) (by omega) (by omega) with h1 | h1
              · rw [Nat.zero_add, Nat.zero_add] at h1; rw [hbef _ h1]; simp [hlt]
              · rw [h1] at hcl2; cases hcl2
            · rcases pairOk_get hpair (i := j) (j := i) (by rw [Nat.zero_add]; exact ho) (by rw [Nat.zero_add]; exact hx) (by omega) (by omega) with h1 | h1
              · rw [Nat.zero_add, Nat.zero_add] at h1
                cases hDi : inD D i with
                | false => simp; omega
                | true =>
                  have := hclosed i (by have := (List.getElem?_eq_some_iff.1 hx).1; omega) hDi _ h1
                  rw [hjD] at this; cases this
              · rw [clash_symm, h1] at hcl2; cases hcl2
          have hclash : ∀ i, i < m → ∀ s, dst i = s → (s ∈ lookL ops o ∨ s = dst j) → ∃ x, ops.toList[i]? = some x ∧ clash ops x o = true := by
            intro i hi s hds hsl
            have hil := hget (show i < ops.size by omega)
            have h1 := (hst i _ (hat i hi _ hil)).1
            refine ⟨_, hil, ?_⟩
            rcases hsl with hsl | hsl
            · exact clash_of_look h1 hsl hds
            · exact clash_of_dst (h1.trans (by rw [hds, hsl])) hod
          have hlook : ∀ s ∈ lookL ops o, ∀ v, X.get (Ei dst (fun i => .det (val i)) e j) s = some v → a.tmps[s]? = some v := by
            intro s hsl v hv
            apply hview
            rw [← hv, get_Ei, ← view_cut m (Nat.le_of_lt hjm)]
            refine view_agree m (fun i hi hds => ?_)
            by_cases hij : i = j
            · subst hij; rw [hjD]; simp
            · obtain ⟨x, hx, hcx⟩ := hclash i hi s hds (.inl hsl)
              exact hord i hi hij x hx hcx
          have hrest : ∀ {M : Heap}, Sit w0 B n [] ds M a w → Sit w0 B n (restr (Ei dst (fun i => .det (val i)) e j) (tmpsOf o.op)) ds M a w := by
            intro M hM
            refine hM.setEnv fun i v hi => ?_
            by_cases hit : i ∈ tmpsOf o.op
            · rw [get_restr hit] at hi; exact hlook i (by simp [lookL, hit]) v hi
            · rw [restr_none hit] at hi; cases hi
          have hsub : Sit w0 B n [] ds L a w := by
            rcases hq with ⟨_, hs⟩ | ⟨_, _, _, _, _, hs⟩
            · exact hs
            · exact hs.subl (List.sublist_append_right _ _)
          unfold wpOpIn
          simp only [ho']
          rw [if_pos (by simp [Region.wanted, hgd])]
          refine hquiet.at_ o.dst o.pos o.after o.guard a w (hrest hsub) _ _ fun w' hkp => ?_
          rw [hod]
          refine ih _ _ _ hcnt (by simp [hsz]) hcl' (fun i hi hne => by rw [hsetD, if_neg (by omega), hhi i hi hne]) ⟨?_, ?_⟩
          · intro s u hu
            rw [put_get? hlt]
            by_cases hsd : s = dst j
            · rw [if_pos hsd]
              rw [view_put (D' := inD (D.setIfInBounds j true)) (v := val j) (by rw [hsetD]; simp) rfl hsd.symm m hjm (fun i hi1 hi2 hds => ?_)] at hu
              · exact hu
              · rw [hsetD, if_neg (by omega)]
                obtain ⟨x, hx, hcx⟩ := hclash i hi2 s hds (.inr hsd)
                rw [hord i hi2 (by omega) x hx hcx]
                simp; omega
            · rw [if_neg hsd]
              refine hview s u ?_
              rw [← hu]
              exact view_agree m (fun i hi hds => by rw [hsetD, if_neg (fun e => hsd (by rw [← hds, e]))])
          · have stp : ∀ {M : Heap}, Sit w0 B n [] ds M a w → Sit w0 B n [] ds M (a.put (some (dst j)) (val j)) w' := fun {M} hM =>
              ((hM.step hkp (fun _ h => by cases h) (hM.own.of_kept hkp (fun _ _ h => by cases h)) (fun b hb => .inl hb)).put (v := val j) hdn).setEnv fun i v h => by simp [X.get] at h
            rcases hq with ⟨hq, hs⟩ | ⟨hq, v, H, hφ, ht, hs⟩
            · exact .inl ⟨by rw [hsetD, if_neg (fun h => hjq h.symm)]; exact hq, stp hs⟩
            · exact .inr ⟨by rw [hsetD, if_neg (fun h => hjq h.symm)]; exact hq, v, H, hφ, by rw [put_get? hlt, if_neg (hoffq j hjm).symm]; exact ht, stp hs⟩
  intro D hD hin
  rw [hlen, Nat.sub_self] at hin
  have hin0 : ∀ i, inD D i = false := fun i => by
    by_cases h1 : i < ops.size
    · rw [hin i h1]; simp
    · simp only [inD, Array.getD_eq_getD_getElem?]; rw [Array.getElem?_eq_none (by omega)]; rfl
  refine main _ D a w rfl hD (fun j o _ hj => by rw [hin0] at hj; cases hj) (fun i _ _ => hin0 i) ⟨?_, .inl ⟨hin0 q, hs.sub fun i v h => by simp [X.get] at h⟩⟩
  intro s v hv
  have : ∀ p, view dst (fun i => .det (val i)) e (inD D) s p = X.get e s := fun p => by
    induction p with
    | zero => rfl
    | succ p ih => simp only [view, hin0]; simpa using ih
  rw [this] at hv
  exact hs.env s v hv
theorem XC.drawA {rid : Nat} {ops : Array Oper} {opq : Op} {tyq : TypeId} {posq : String} (m q dq : Nat) (hm : P.follows .mixedOrders = true) (hedge : edgesOk ops = true) (hpair : pairOk ops 0 m = true) (hcut : cutF ops m q = true)
    (hqo : ops.toList[q]? = some ⟨some dq, opq, tyq, posq, #[], none⟩) (hqm : Nat.ble m q = true) (hqn : Nat.blt dq n = true)
    (hoff : ((ops.toList.take m).all fun o => match o.dst with | some d => !(Nat.beq d dq) | none => true) = true)
    (hmk : Makes P r w0 B n ds L opq tyq [] Φ) (h : XA P r w0 B n ops m q dq ops.toList Q e ds L Φ) : XC P r w0 B n (.region rid ops true) Q e ds L :=
  .drawR hm hedge (XA.run rfl hedge hpair hcut hqo hqm hqn hoff hmk h)
theorem Makes.alloc [T : Tab P] {el ty : TypeId} {s by' : Nat} {z : Value} {zs : List Value} (hi : T.inf el = some (s, by', z)) (hz : z.cells.toList = zs) :
    Makes P r w0 B n ds L (.alloc el) ty e (fun v H => ∃ b, v = .pointer (some ⟨b, 0, none⟩) ∧ H = [.blk b zs el]) := by
  refine .run (by simp) fun ρ d pos af g w _ _ _ => ?_
  refine ⟨_, [.blk w.heap.size zs el], { w with heap := w.heap.push (.cells zs.toArray el (0, 0)) }, ?_, ⟨w.heap.size, rfl, rfl⟩, push_kept w _ rfl, push_owns w zs el, by simp [X.ids, Ent.ids]⟩
  simp only [execOp, Instr.alloc, Sem.run_bind, run_zero hi, Result.andThen, newVar, newRow, run_newObj', Sem.run_pure, ← hz, Array.toArray_toList]
end
end Go.X
