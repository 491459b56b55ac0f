/- A region whose order is open: where its operations yield values and change no block, one walk in the order of the text serves every order; a last part that is forced may do more. -/
import Derived.Test.YtdpcbpadjkmjjaaCall
import Derived.OrdersIn
namespace Go.X
open Go

/-! ### What is forced to come ahead of what -/
def befs (l : List Oper) : List (List Nat) :=
  l.foldl (fun bs o => bs ++ [(o.after.toList.filter (Region.binds .any)).flatMap fun x => x.on :: bs.getD x.on []]) []
/-- the slots at which an operation looks -/
def lookL (ops : Array Oper) (o : Oper) : List Nat := tmpsOf o.op ++ (match o.guard with
  | some (g, _) => ((ops[g]?).bind (·.dst)).toList
  | none => [])
def clash (ops : Array Oper) (x y : Oper) : Bool :=
  match x.dst, y.dst with
  | some d, some c => (lookL ops y).contains d || (lookL ops x).contains c || d == c
  | some d, none => (lookL ops y).contains d
  | none, some c => (lookL ops x).contains c
  | none, none => false
/-- what is asked of a region: edges lead back; what clashes is ordered; from m on all is ordered. -/
def drawOk (ops : Array Oper) (m : Nat) : Bool :=
  let l := ops.toList
  let bs := befs l
  (List.range l.length).all fun j =>
    (((l.getD j default).after.toList.filter (Region.binds .any)).all fun x => Nat.blt x.on j) &&
    (List.range j).all fun i => ((bs.getD j []).contains i) || (Nat.blt j m && !(clash ops (l.getD i default) (l.getD j default)))

section
variable {P : Program} {r : Option Nat} {w0 : World} {B : List Nat} {n : Nat} {Q : Post} {e : Env} {ds : List Deferred} {L : Heap}

def StepQ (P : Program) (r : Option Nat) (w0 : World) (B : List Nat) (n : Nat) (ds : List Deferred) (L : Heap) (ops : Array Oper) (o : Oper) (e : Env) (v : Value) : Prop :=
  ((o.guard = none ∨ ∃ j want s, o.guard = some (j, want) ∧ (ops[j]?).bind (·.dst) = some s ∧ get e s = some (.bool want)) ∧ Quiet P r w0 B n ds L o.op o.type e v) ∨
  ((∃ j want s u, o.guard = some (j, want) ∧ (ops[j]?).bind (·.dst) = some s ∧ get e s = some u ∧ noB want u = true) ∧ v = undef)
def QL (P : Program) (r : Option Nat) (w0 : World) (B : List Nat) (n : Nat) (ds : List Deferred) (L : Heap) (ops : Array Oper) : List Oper → Env → Env → Prop
  | [], e, e' => e = e'
  | o :: l, e, e' => ∃ d v, o.dst = some d ∧ Nat.blt d n = true ∧ StepQ P r w0 B n ds L ops o e v ∧ QL P r w0 B n ds L ops l ((d, v) :: e) e'
/-- The walk of a region that draws: l is what is left of it, in the order of the text. -/
structure XD (P : Program) (r : Option Nat) (w0 : World) (B : List Nat) (n : Nat) (ops : Array Oper) (l : List Oper) (Q : Post) (e : Env) (ds : List Deferred) (L : Heap) : Prop where
  parts : ∃ l1 l2 e', l = l1 ++ l2 ∧ QL P r w0 B n ds L ops l1 e e' ∧ drawOk ops (ops.size - l2.length) = true ∧ XL P r w0 B n ops l2 Q e' ds L

theorem XD.tail {ops : Array Oper} {l : List Oper} (hc : drawOk ops (ops.size - l.length) = true) (h : XL P r w0 B n ops l Q e ds L) : XD P r w0 B n ops l Q e ds L :=
  ⟨[], l, e, rfl, rfl, hc, h⟩
theorem XD.nil {ops : Array Oper} (hc : drawOk ops ops.size = true) (h : XE w0 B n .normal Q e ds L) : XD P r w0 B n ops [] Q e ds L :=
  ⟨[], [], e, rfl, rfl, hc, .nil h⟩
theorem XD.step {ops : Array Oper} {o : Oper} {rest : List Oper} {d : Nat} {v : Value} (ho : o.dst = some d) (hd : Nat.blt d n = true) (hq : StepQ P r w0 B n ds L ops o e v)
    (h : XD P r w0 B n ops rest Q ((d, v) :: e) ds L) : XD P r w0 B n ops (o :: rest) Q e ds L := by
  obtain ⟨l1, l2, e', rfl, h1, h2, h3⟩ := h.parts
  exact ⟨o :: l1, l2, e', rfl, ⟨d, v, ho, hd, hq, h1⟩, h2, h3⟩
theorem XD.q {ops : Array Oper} {rest : List Oper} {d : Nat} {op : Op} {ty : TypeId} {pos : String} {af : Array Edge} {v : Value}
    (hq : Quiet P r w0 B n ds L op ty e v) (hd : Nat.blt d n = true)
    (h : XD P r w0 B n ops rest Q ((d, v) :: e) ds L) : XD P r w0 B n ops (⟨some d, op, ty, pos, af, none⟩ :: rest) Q e ds L :=
  .step rfl hd (.inl ⟨.inl rfl, hq⟩) h
theorem XD.qY {ops : Array Oper} {rest : List Oper} {d : Nat} {op : Op} {ty : TypeId} {pos : String} {af : Array Edge} {v : Value} {j s : Nat} {want b : Bool}
    (hj : (ops[j]?).bind (·.dst) = some s) (hb : get e s = some (.bool b)) (hw : b = want) (hq : Quiet P r w0 B n ds L op ty e v) (hd : Nat.blt d n = true)
    (h : XD P r w0 B n ops rest Q ((d, v) :: e) ds L) : XD P r w0 B n ops (⟨some d, op, ty, pos, af, some (j, want)⟩ :: rest) Q e ds L :=
  .step rfl hd (.inl ⟨.inr ⟨j, want, s, rfl, hj, hw ▸ hb⟩, hq⟩) h
theorem XD.qN {ops : Array Oper} {rest : List Oper} {d : Nat} {op : Op} {ty : TypeId} {pos : String} {af : Array Edge} {u : Value} {j s : Nat} {want : Bool}
    (hj : (ops[j]?).bind (·.dst) = some s) (hb : get e s = some u) (hw : noB want u = true) (hd : Nat.blt d n = true)
    (h : XD P r w0 B n ops rest Q ((d, undef) :: e) ds L) : XD P r w0 B n ops (⟨some d, op, ty, pos, af, some (j, want)⟩ :: rest) Q e ds L :=
  .step rfl hd (.inr ⟨⟨j, want, s, u, rfl, hj, hb, hw⟩, rfl⟩) h

/-! ### Soundness -/
def Ei (dst : Nat → Nat) (val : Nat → Value) (e : Env) : Nat → Env
  | 0 => e
  | i + 1 => (dst i, val i) :: Ei dst val e i
theorem Ei_shift {dst : Nat → Nat} {val : Nat → Value} {e : Env} {d : Nat} {v : Value} : ∀ i,
    Ei (fun k => match k with | 0 => d | k + 1 => dst k) (fun k => match k with | 0 => v | k + 1 => val k) e (i + 1) = Ei dst val ((d, v) :: e) i
  | 0 => rfl
  | i + 1 => by
    have := Ei_shift (dst := dst) (val := val) (e := e) (d := d) (v := v) i
    show (dst i, val i) :: Ei _ _ e (i + 1) = (dst i, val i) :: Ei dst val ((d, v) :: e) i
    rw [this]
theorem QL.get {ops : Array Oper} : ∀ {l : List Oper} {e e' : Env}, QL P r w0 B n ds L ops l e e' →
    ∃ (dst : Nat → Nat) (val : Nat → Value), (∀ i o, l[i]? = some o → o.dst = some (dst i) ∧ Nat.blt (dst i) n = true ∧ StepQ P r w0 B n ds L ops o (Ei dst val e i) (val i)) ∧ e' = Ei dst val e l.length
  | [], e, e', h => ⟨fun _ => 0, fun _ => undef, fun i o ho => by simp at ho, h.symm⟩
  | o :: l, e, e', h => by
    obtain ⟨d, v, h1, h2, h3, h4⟩ := h
    obtain ⟨dst, val, h5, h6⟩ := QL.get h4
    refine ⟨fun k => match k with | 0 => d | k + 1 => dst k, fun k => match k with | 0 => v | k + 1 => val k, ?_, ?_⟩
    · intro i o' ho'
      cases i with
      | zero => simp at ho'; subst ho'; exact ⟨h1, h2, h3⟩
      | succ i =>
        simp at ho'
        have := h5 i o' ho'
        rw [Ei_shift]
        exact this
    · rw [h6, List.length_cons, Ei_shift]
/-- The slot's content where the operations of D have been carried out. -/
def view (dst : Nat → Nat) (val : Nat → Value) (e : Env) (D : Nat → Bool) (s : Nat) : Nat → Option Value
  | 0 => X.get e s
  | i + 1 => if D i = true ∧ dst i = s then some (val i) else view dst val e D s i
theorem get_Ei {dst : Nat → Nat} {val : Nat → Value} {e : Env} {s : Nat} : ∀ i, X.get (Ei dst val e i) s = view dst val e (fun _ => true) s i
  | 0 => rfl
  | i + 1 => by
    simp only [Ei, X.get, view]
    cases hb : Nat.beq s (dst i) with
    | true => have := Nat.eq_of_beq_eq_true hb; simp [this]
    | false =>
      have : ¬ dst i = s := fun h => Nat.ne_of_beq_eq_false hb h.symm
      simp [this, get_Ei i]
theorem view_agree {dst : Nat → Nat} {val : Nat → Value} {e : Env} {s : Nat} {D D' : Nat → Bool} : ∀ m, (∀ i, i < m → dst i = s → D i = D' i) → view dst val e D s m = view dst val e D' s m
  | 0, _ => rfl
  | m + 1, h => by
    simp only [view]
    rw [view_agree m (fun i hi => h i (by omega))]
    by_cases hs : dst m = s
    · rw [h m (by omega) hs]
    · simp [hs]
theorem view_cut {dst : Nat → Nat} {val : Nat → Value} {e : Env} {s j : Nat} : ∀ m, j ≤ m → view dst val e (fun i => decide (i < j)) s m = view dst val e (fun _ => true) s j
  | 0, h => by obtain rfl : j = 0 := (by omega); rfl
  | m + 1, h => by
    by_cases hj : j = m + 1
    · subst hj; exact view_agree _ (fun i hi _ => by simpa using hi)
    · simp only [view]
      have h1 : ¬ m < j := by omega
      have h2 := view_cut (dst := dst) (val := val) (e := e) (s := s) (j := j) m (by omega)
      simp [h1, h2]
theorem view_put {dst : Nat → Nat} {val : Nat → Value} {e : Env} {s j : Nat} {D D' : Nat → Bool} (hj : D' j = true) (hs : dst j = s) : ∀ m, j < m → (∀ i, j < i → i < m → dst i = s → D' i = false) →
    view dst val e D' s m = some (val j)
  | 0, h, _ => by omega
  | m + 1, h, hn => by
    simp only [view]
    by_cases hm : j = m
    · subst hm; simp [hj, hs]
    · have h1 := view_put (D := D) (e := e) (val := val) hj hs m (by omega) (fun i h1 h2 => hn i h1 (by omega))
      rw [h1]
      by_cases h2 : dst m = s
      · simp [hn m (by omega) (by omega) h2]
      · simp [h2]

theorem befs_mem {l : List Oper} (hback : ∀ j o, l[j]? = some o → ∀ x ∈ o.after.toList, Region.binds .any x = true → x.on < j) {j : Nat} {o : Oper} (ho : l[j]? = some o) {i : Nat} (hi : i ∈ (befs l).getD j []) :
    ∃ x ∈ o.after.toList, Region.binds .any x = true ∧ (i = x.on ∨ i ∈ (befs l).getD x.on []) := by
  have key : ∀ (k : Nat), k ≤ l.length → ∃ bs cs : List (List Nat), (l.take k).foldl (fun bs o => bs ++ [(o.after.toList.filter (Region.binds .any)).flatMap fun x => x.on :: bs.getD x.on []]) [] = bs ∧ bs.length = k ∧
      befs l = bs ++ cs ∧ ∀ j o, j < k → l[j]? = some o → ∀ i ∈ bs.getD j [], ∃ x ∈ o.after.toList, Region.binds .any x = true ∧ (i = x.on ∨ i ∈ bs.getD x.on []) := by
    intro k
    induction k with
    | zero => intro _; exact ⟨[], befs l, by simp, rfl, rfl, fun j o hj => by omega⟩
    | succ k ih =>
      intro hk
      obtain ⟨bs, cs, h1, h2, h3, h4⟩ := ih (by omega)
      have hlt : k < l.length := hk
      have hok : l[k]? = some l[k] := List.getElem?_eq_getElem hlt
      have e1 : (l.take (k + 1)).foldl (fun bs o => bs ++ [(o.after.toList.filter (Region.binds .any)).flatMap fun x => x.on :: bs.getD x.on []]) [] = bs ++ [(l[k].after.toList.filter (Region.binds .any)).flatMap fun x => x.on :: bs.getD x.on []] := by
        rw [List.take_succ_eq_append_getElem hlt, List.foldl_append, h1]; rfl
      have hget : ∀ (N : List (List Nat)) q, q < k → (bs ++ N).getD q [] = bs.getD q [] := fun N q hq => by
        simp only [List.getD_eq_getElem?_getD]; rw [List.getElem?_append_left (by omega)]
      have e2 : ∃ cs', befs l = (bs ++ [(l[k].after.toList.filter (Region.binds .any)).flatMap fun x => x.on :: bs.getD x.on []]) ++ cs' := by
        have hgrow : ∀ (m : List Oper) (b0 : List (List Nat)), ∃ c, m.foldl (fun bs o => bs ++ [(o.after.toList.filter (Region.binds .any)).flatMap fun x => x.on :: bs.getD x.on []]) b0 = b0 ++ c := by
          intro m
          induction m with
          | nil => intro b0; exact ⟨[], by simp⟩
          | cons o m ihm => intro b0; obtain ⟨c, hc⟩ := ihm (b0 ++ [(o.after.toList.filter (Region.binds .any)).flatMap fun x => x.on :: b0.getD x.on []]); exact ⟨_, by rw [List.foldl_cons, hc, List.append_assoc]⟩
        obtain ⟨c, hc⟩ := hgrow (l.drop (k + 1)) (bs ++ [(l[k].after.toList.filter (Region.binds .any)).flatMap fun x => x.on :: bs.getD x.on []])
        refine ⟨c, ?_⟩
        rw [← hc, ← e1, ← List.foldl_append, List.take_append_drop]; rfl
      obtain ⟨cs', e2⟩ := e2
      refine ⟨_, cs', e1, by simp [h2], e2, ?_⟩
      intro j o hj ho i hi
      by_cases hjk : j = k
      · subst hjk
        simp only [List.getD_eq_getElem?_getD] at hi
        rw [List.getElem?_append_right (by omega)] at hi
        simp [h2] at hi
        have heq : l[j] = o := by rw [hok] at ho; exact Option.some.inj ho
        obtain ⟨x, ⟨hx, hbx⟩, hi⟩ := hi
        have hx' : x ∈ o.after.toList := by rw [← heq]; simpa using hx
        refine ⟨x, hx', hbx, ?_⟩
        have hlx := hback j o ho x hx' hbx
        rw [hget _ _ hlx]
        exact hi.imp id (fun h => by simpa [List.getD_eq_getElem?_getD] using h)
      · rw [hget _ _ (by omega)] at hi
        obtain ⟨x, h5, h6, h7⟩ := h4 j o (by omega) ho i hi
        refine ⟨x, h5, h6, ?_⟩
        rw [hget _ _ (by have := hback j o ho x h5 h6; omega)]
        exact h7
  obtain ⟨bs, cs, h1, h2, h3, h4⟩ := key l.length (Nat.le_refl _)
  have e1 : befs l = bs := by rw [List.take_length] at h1; exact h1
  rw [e1] at hi ⊢
  exact h4 j o (List.getElem?_eq_some_iff.1 ho).1 ho i hi
theorem befs_closed {l : List Oper} {D : Nat → Bool} (hb : ∀ j o, l[j]? = some o → D j = true → ∀ x ∈ o.after.toList, Region.binds .any x = true → D x.on = true)
    (hback : ∀ j o, l[j]? = some o → ∀ x ∈ o.after.toList, Region.binds .any x = true → x.on < j) : ∀ j, j < l.length → D j = true → ∀ i ∈ (befs l).getD j [], D i = true := by
  intro j
  induction j using Nat.strongRecOn with
  | _ j ih =>
    intro hj hD i hi
    have ho : l[j]? = some l[j] := List.getElem?_eq_getElem hj
    obtain ⟨x, hx, hbx, hi⟩ := befs_mem hback ho hi
    have h1 := hb j _ ho hD x hx hbx
    have h2 := hback j _ ho x hx hbx
    rcases hi with rfl | hi
    · exact h1
    · exact ih x.on h2 (by omega) h1 i hi

/-- the operations that have been carried out -/
def inD (D : Array Bool) (i : Nat) : Bool := D.getD i false
theorem inD_set {D : Array Bool} {i k : Nat} (hi : i < D.size) : inD (D.setIfInBounds i true) k = if k = i then true else inD D k := by
  simp only [inD, Array.getD_eq_getD_getElem?]
  by_cases h : k = i
  · subst h; simp [hi]
  · rw [if_neg h, Array.getElem?_setIfInBounds_ne (fun e => h e.symm)]
def cnt (f : Nat → Bool) : Nat → Nat
  | 0 => 0
  | k + 1 => cnt f k + if f k = true then 0 else 1
theorem cnt_set {f g : Nat → Bool} {i : Nat} : ∀ N, i < N → f i = false → g i = true → (∀ k, k ≠ i → g k = f k) → cnt f N = cnt g N + 1
  | 0, h, _, _, _ => by omega
  | N + 1, h, h1, h2, h3 => by
    simp only [cnt]
    by_cases hi : i = N
    · subst hi
      have : ∀ M, M ≤ i → cnt g M = cnt f M := fun M => by
        induction M with
        | zero => intro _; rfl
        | succ M ih => intro hM; simp only [cnt]; rw [ih (by omega), h3 M (by omega)]
      rw [this i (Nat.le_refl _), h1, h2]; simp
    · rw [cnt_set N (by omega) h1 h2 h3, h3 N (fun e => hi e.symm)]; omega
theorem cnt_zero {f : Nat → Bool} : ∀ {N}, cnt f N = 0 → ∀ i, i < N → f i = true
  | 0, _, i, hi => by omega
  | N + 1, h, i, hi => by
    simp only [cnt] at h
    by_cases hN : f N = true
    · by_cases hi' : i = N
      · rw [hi']; exact hN
      · exact cnt_zero (by rw [if_pos hN] at h; omega) i (by omega)
    · rw [if_neg hN] at h; omega

theorem drawOk_back {ops : Array Oper} {m : Nat} (h : drawOk ops m = true) : ∀ j o, ops.toList[j]? = some o → ∀ x ∈ o.after.toList, Region.binds .any x = true → x.on < j := by
  intro j o ho x hx hb
  have hlt : j < ops.toList.length := (List.getElem?_eq_some_iff.1 ho).1
  simp only [drawOk, List.all_eq_true, List.mem_range, Bool.and_eq_true] at h
  have := (h j hlt).1 x (by rw [List.getD_eq_getElem?_getD, ho]; simpa using ⟨by simpa using hx, hb⟩)
  simpa [Nat.blt_eq] using this
theorem drawOk_pair {ops : Array Oper} {m : Nat} (h : drawOk ops m = true) {i j : Nat} {x y : Oper} (hx : ops.toList[i]? = some x) (hy : ops.toList[j]? = some y) (hij : i < j) :
    i ∈ (befs ops.toList).getD j [] ∨ (j < m ∧ clash ops x y = false) := by
  have hlt : j < ops.toList.length := (List.getElem?_eq_some_iff.1 hy).1
  simp only [drawOk, List.all_eq_true, List.mem_range, Bool.and_eq_true] at h
  have := (h j hlt).2 i hij
  have e1 : ops.toList.getD i default = x := by rw [List.getD_eq_getElem?_getD, hx]; rfl
  have e2 : ops.toList.getD j default = y := by rw [List.getD_eq_getElem?_getD, hy]; rfl
  rw [e1, e2] at this
  simp only [Bool.or_eq_true, Bool.and_eq_true] at this
  rcases this with h1 | ⟨h1, h2⟩
  · exact .inl (by simpa using h1)
  · exact .inr ⟨by simpa [Nat.blt_eq] using h1, by simpa using h2⟩

theorem clash_symm (ops : Array Oper) (x y : Oper) : clash ops x y = clash ops y x := by
  unfold clash
  cases hx : x.dst <;> cases hy : y.dst <;> simp only []
  rename_i d c
  rw [Bool.or_comm ((lookL ops y).contains d), show (d == c) = (c == d) from by rw [Bool.eq_iff_iff]; simp only [beq_iff_eq]; exact eq_comm]

theorem mem_ready {md : Region.Mode} {ops : Array Oper} {D : Array Bool} (hD : D.size = ops.size) {j : Nat} : j ∈ Region.ready md ops D ↔ ∃ o, ops.toList[j]? = some o ∧ inD D j = false ∧ ∀ x ∈ o.after.toList, Region.binds md x = true → inD D x.on = true := by
  simp only [Region.ready, List.mem_filter, List.mem_range, Bool.and_eq_true, Bool.not_eq_true']
  constructor
  · rintro ⟨h1, h2, h3⟩
    refine ⟨ops[j], by simp [h1], ?_, ?_⟩
    · simp only [inD, Array.getD_eq_getD_getElem?] at h2 ⊢
      have hs : j < D.size := by omega
      simp [hs] at h2 ⊢; exact h2
    · simp [h1] at h3
      intro x hx hb
      obtain ⟨k, hk, rfl⟩ := List.getElem_of_mem hx
      have := h3 k (by simpa using hk)
      simp at hb this
      rcases this with h | h
      · rw [hb] at h; cases h
      · simpa [inD] using h
  · rintro ⟨o, ho, h2, h3⟩
    have h1 : j < ops.size := by have := (List.getElem?_eq_some_iff.1 ho).1; simpa using this
    have ho' : ops[j] = o := by simpa [h1] using ho
    refine ⟨h1, ?_, ?_⟩
    · simp only [inD, Array.getD_eq_getD_getElem?] at h2 ⊢
      have hs : j < D.size := by omega
      simp [hs] at h2 ⊢; exact h2
    · simp only [h1, getElem?_pos, Option.map_some, Option.getD_some, ho']
      rw [Array.all_eq_true]
      intro k hk
      by_cases hb : Region.binds md o.after[k] = true
      · simp only [hb, Bool.not_true, Bool.false_or]
        have := h3 o.after[k] (by simp) hb
        simpa [inD] using this
      · simp [hb]

theorem cnt_all {f : Nat → Bool} : ∀ {N}, (∀ i, i < N → f i = true) → cnt f N = 0
  | 0, _ => rfl
  | N + 1, h => by simp only [cnt]; rw [cnt_all (fun i hi => h i (by omega)), h N (by omega)]; rfl
theorem first_false {f : Nat → Bool} : ∀ N, (∀ i, i < N → f i = true) ∨ ∃ j, j < N ∧ f j = false ∧ ∀ i, i < j → f i = true
  | 0 => .inl fun i hi => by omega
  | N + 1 => by
    rcases first_false (f := f) N with h | ⟨j, h1, h2⟩
    · cases hN : f N with
      | true =>
        refine .inl fun i hi => ?_
        by_cases e : i = N
        · rw [e]; exact hN
        · exact h i (by omega)
      | false => exact .inr ⟨N, by omega, hN, h⟩
    · exact .inr ⟨j, by omega, h2⟩

theorem XC.draw {rid : Nat} {ops : Array Oper} (hm : P.follows .mixedOrders = true) (h : XD P r w0 B n ops ops.toList Q e ds L) : XC P r w0 B n (.region rid ops true) Q e ds L := by
  refine ⟨fun a w hs => ?_⟩
  obtain ⟨l1, l2, e', hl, hq, hok, hx⟩ := h.parts
  obtain ⟨dst, val, hst, he'⟩ := hq.get
  obtain ⟨m, hmm⟩ : ∃ m, l1.length = m := ⟨_, rfl⟩
  have hlen : ops.toList.length = ops.size := by simp
  have hN : m + l2.length = ops.size := by rw [← hlen, hl, ← hmm]; simp
  have hok' : drawOk ops m = true := by rwa [show ops.size - l2.length = m by omega] at hok
  have hback := drawOk_back hok'
  have hat1 : ∀ i, i < m → ∀ o, ops.toList[i]? = some o → l1[i]? = some o := fun i hi o ho => by rwa [hl, List.getElem?_append_left (by omega)] at ho
  -- what is known while the first operations are carried out
  let Low : Array Bool → Act → World → Prop := fun D a w =>
    (∀ i, m ≤ i → inD D i = false) ∧ Sit w0 B n [] ds L a w ∧ (∀ s v, view dst val e (inD D) s m = some v → a.tmps[s]? = some v)
  let High : Array Bool → Act → World → Prop := fun D a w =>
    ∃ k, m ≤ k ∧ (∀ i, i < ops.size → inD D i = decide (i < k)) ∧ wpListIn (FW r) 0 P ops Q (ops.toList.drop k) a w
  let Inv : Array Bool → Act → World → Prop := fun D a w =>
    D.size = ops.size ∧ (∀ j o, ops.toList[j]? = some o → inD D j = true → ∀ x ∈ o.after.toList, Region.binds .any x = true → inD D x.on = true) ∧ (Low D a w ∨ High D a w)
  -- from the first part on to the forced one
  have shift : ∀ D a w, Inv D a w → (∀ i, i < m → inD D i = true) → High D a w := by
    intro D a w hI hall
    obtain ⟨hsz, hcl, (⟨h1, h2, h3⟩ | h)⟩ := hI
    · refine ⟨m, Nat.le_refl _, fun i hi => ?_, ?_⟩
      · by_cases him : i < m
        · simp [him, hall i him]
        · simp [him, h1 i (by omega)]
      · have : ops.toList.drop m = l2 := by rw [hl, ← hmm]; simp
        rw [this]
        refine hx.run a w ⟨h2.sz, h2.df, fun s v hv => h3 s v ?_, h2.own, h2.kept, h2.wr⟩
        rw [he', hmm, get_Ei] at hv
        rw [← hv]
        exact view_agree m (fun i hi _ => hall i hi)
    · exact h
  have main : ∀ fuel D a w, cnt (inD D) ops.size = fuel → Inv D a w → wpAnyIn (FW r) 0 P .any ops Q fuel D a w := by
    intro fuel
    induction fuel with
    | zero =>
      intro D a w hc hI
      have hall := cnt_zero hc
      refine ⟨?_, ?_⟩
      · cases hr : Region.ready .any ops D with
        | nil => rfl
        | cons j js =>
          obtain ⟨o, ho, h1, _⟩ := (mem_ready hI.1).1 (hr ▸ List.mem_cons_self : j ∈ Region.ready .any ops D)
          have hlt := (List.getElem?_eq_some_iff.1 ho).1
          rw [hall j (by omega)] at h1; cases h1
      · obtain ⟨k, h1, h2, h3⟩ := shift D a w hI (fun i hi => hall i (by omega))
        by_cases hk : k < ops.size
        · have := h2 k hk; rw [hall k hk] at this; simp at this
        · rw [List.drop_of_length_le (by omega)] at h3; exact h3
    | succ fuel ih =>
      intro D a w hc hI
      obtain ⟨hsz, hcl, hI'⟩ := hI
      constructor
      · -- something is always ready
        intro hr
        exfalso
        rcases first_false (f := inD D) ops.size with h | ⟨j, h1, h2, h3⟩
        · rw [cnt_all h] at hc; omega
        · have ho : ops.toList[j]? = some ops.toList[j] := List.getElem?_eq_getElem (by omega)
          have : j ∈ Region.ready .any ops D := (mem_ready hsz).2 ⟨_, ho, h2, fun x hx hb => h3 _ (hback j _ ho x hx hb)⟩
          rw [hr] at this; cases this
      · intro j hj
        obtain ⟨o, ho, hjD, hedge⟩ := (mem_ready hsz).1 hj
        have hjl : j < ops.toList.length := (List.getElem?_eq_some_iff.1 ho).1
        have hjs : j < ops.size := by omega
        have ho' : ops[j]? = some o := by simpa using ho
        have hsetD : ∀ k, inD (D.setIfInBounds j true) k = if k = j then true else inD D k := fun k => inD_set (by omega)
        have hclosed := befs_closed hcl hback
        have hcnt : cnt (inD (D.setIfInBounds j true)) ops.size = fuel := by
          have := cnt_set ops.size hjs hjD (g := inD (D.setIfInBounds j true)) (by rw [hsetD]; simp) (fun k hk => by rw [hsetD]; simp [hk])
          omega
        have hsz' : (D.setIfInBounds j true).size = ops.size := by simp [hsz]
        have hcl' : ∀ i o', ops.toList[i]? = some o' → inD (D.setIfInBounds j true) i = true → ∀ x ∈ o'.after.toList, Region.binds .any x = true → inD (D.setIfInBounds j true) x.on = true := by
          intro i o' hi hD x hx hb
          rw [hsetD] at hD ⊢
          by_cases hij : i = j
          · subst hij
            have : o' = o := by rw [ho] at hi; exact (Option.some.inj hi).symm
            subst this
            rw [hedge x hx hb]; simp
          · rw [if_neg hij] at hD; rw [hcl i o' hi hD x hx hb]; simp
        -- all that j must wait for has been carried out
        have hbef : ∀ i ∈ (befs ops.toList).getD j [], inD D i = true := by
          intro i hi
          obtain ⟨x, hx, hb, hi⟩ := befs_mem hback ho hi
          have h1 := hedge x hx hb
          rcases hi with rfl | hi
          · exact h1
          · exact hclosed x.on (by have := hback j o ho x hx hb; omega) h1 i hi
        have hinv' : ∀ a w, (Low (D.setIfInBounds j true) a w ∨ High (D.setIfInBounds j true) a w) → wpAnyIn (FW r) 0 P .any ops Q fuel (D.setIfInBounds j true) a w :=
          fun a w h => ih _ a w hcnt ⟨hsz', hcl', h⟩
        have goHigh : High D a w → wpOpIn (FW r) 0 P ops Q j (wpAnyIn (FW r) 0 P .any ops Q fuel (D.setIfInBounds j true)) a w := by
          rintro ⟨k, hk1, hk2, hk3⟩
          have hjk : j = k := by
            rcases Nat.lt_trichotomy j k with h | h | h
            · have := hk2 j hjs; rw [hjD] at this; simp [h] at this
            · exact h
            · exfalso
              have hkl : k < ops.toList.length := by omega
              rcases drawOk_pair hok' (List.getElem?_eq_getElem hkl) ho h with h1 | ⟨h1, _⟩
              · have := hbef k h1; rw [hk2 k (by omega)] at this; simp at this
              · omega
          subst hjk
          have hdrop : ops.toList.drop j = o :: ops.toList.drop (j + 1) := by
            rw [List.drop_eq_getElem_cons hjl]; congr 1
            have := List.getElem?_eq_getElem hjl; rw [ho] at this; exact (Option.some.inj this).symm
          rw [hdrop] at hk3
          have hfin : ∀ a w, wpListIn (FW r) 0 P ops Q (ops.toList.drop (j + 1)) a w → wpAnyIn (FW r) 0 P .any ops Q fuel (D.setIfInBounds j true) a w := fun a w h =>
            hinv' a w (.inr ⟨j + 1, by omega, fun i hi => by
              rw [hsetD]
              by_cases e : i = j
              · simp [e]
              · rw [if_neg e, hk2 i hi]
                have : (i < j) ↔ (i < j + 1) := by omega
                simp [this], h⟩)
          simp only [wpListIn] at hk3
          unfold wpOpIn
          simp only [ho']
          split
          · rename_i hw
            rw [if_pos hw] at hk3
            exact Oper.wpIn_mono hfin hk3
          · rename_i hw
            rw [if_neg hw] at hk3
            exact ⟨hk3.1, hfin _ _ hk3.2⟩
        rcases hI' with ⟨hlow, hsit, hview⟩ | hhigh
        · by_cases hjm : j < m
          · -- one of the first operations, in whatever order
            obtain ⟨hod, hdn, hsq⟩ := hst j o (hat1 j hjm o ho)
            have hord : ∀ i, i < m → i ≠ j → ∀ x, ops.toList[i]? = some x → clash ops x o = true → inD D i = decide (i < j) := by
              intro i hi hne x hx hcl2
              rcases Nat.lt_or_gt_of_ne hne with hlt | hgt
              · rcases drawOk_pair hok' hx ho hlt with h1 | ⟨_, h1⟩
                · rw [hbef i h1]; simp [hlt]
                · rw [h1] at hcl2; cases hcl2
              · rcases drawOk_pair hok' ho hx hgt with h1 | ⟨_, h1⟩
                · cases hDi : inD D i with
                  | false => simp; omega
                  | true =>
                    have := hclosed i (by have := (List.getElem?_eq_some_iff.1 hx).1; omega) hDi j h1
                    rw [hjD] at this; cases this
                · rw [clash_symm, h1] at hcl2; cases hcl2
            -- the slots at which it looks hold what they hold in the order of the text
            have hlook : ∀ s ∈ lookL ops o, ∀ v, X.get (Ei dst val e j) s = some v → a.tmps[s]? = some v := by
              intro s hsl v hv
              apply hview
              rw [← hv, get_Ei, ← view_cut m (Nat.le_of_lt hjm)]
              refine view_agree m (fun i hi hds => ?_)
              by_cases hij : i = j
              · subst hij; rw [hjD]; simp
              · have hil : i < ops.toList.length := by omega
                obtain ⟨h1, _⟩ := hst i _ (hat1 i hi _ (List.getElem?_eq_getElem hil))
                refine hord i hi hij _ (List.getElem?_eq_getElem hil) ?_
                simp only [clash, h1, hod, hds]
                have : (lookL ops o).contains s = true := by simpa using hsl
                rw [this]; simp
            have hnew : ∀ w', Kept [] w w' → wpAnyIn (FW r) 0 P .any ops Q fuel (D.setIfInBounds j true) (a.put o.dst (val j)) w' := by
              intro w' hk
              refine hinv' _ _ (.inl ⟨fun i hi => ?_, ?_, ?_⟩)
              · rw [hsetD, if_neg (by omega), hlow i hi]
              · rw [hod]
                have h1 := (hsit.step hk (fun _ h => by cases h) (hsit.own.of_kept hk (fun _ _ h => by cases h)) (fun b hb => .inl hb)).put (v := val j) hdn
                exact ⟨h1.sz, h1.df, fun i v h => by simp [X.get] at h, h1.own, h1.kept, h1.wr⟩
              · intro s v hv
                rw [hod, put_get? (by rw [hsit.sz]; simpa [Nat.blt_eq] using hdn)]
                by_cases hsd : s = dst j
                · rw [if_pos hsd]
                  rw [view_put (D := inD D) (j := j) (by rw [hsetD]; simp) hsd.symm m hjm (fun i hi1 hi2 hds => ?_)] at hv
                  · exact hv
                  · rw [hsetD, if_neg (by omega)]
                    have hil : i < ops.toList.length := by omega
                    obtain ⟨h1, _⟩ := hst i _ (hat1 i hi2 _ (List.getElem?_eq_getElem hil))
                    rw [hord i hi2 (by omega) _ (List.getElem?_eq_getElem hil) (by simp only [clash, h1, hod, hds, hsd]; simp)]
                    simp; omega
                · rw [if_neg hsd]
                  refine hview s v ?_
                  rw [← hv]
                  exact view_agree m (fun i hi hds => by rw [hsetD, if_neg (fun e => hsd (by rw [← hds, e]))])
            unfold wpOpIn
            simp only [ho']
            rcases hsq with ⟨hg, hqq⟩ | ⟨⟨jj, want, s, u, hg, hjj, hgs, hno⟩, hv⟩
            · have hw : Region.wanted o (yielded ops a.tmps) = true := by
                rcases hg with hg | ⟨jj, want, s, hg, hjj, hgs⟩
                · simp [Region.wanted, hg]
                · have := hlook s (by simp [lookL, hg, hjj]) _ hgs
                  simp [Region.wanted, hg, yielded, hjj, this]
              rw [if_pos hw]
              refine hqq.at_ o.dst o.pos o.after o.guard a w ⟨hsit.sz, hsit.df, fun i v hi => ?_, hsit.own, hsit.kept, hsit.wr⟩ _ _ hnew
              by_cases hit : i ∈ tmpsOf o.op
              · rw [get_restr hit] at hi
                exact hlook i (by simp [lookL, hit]) v hi
              · exfalso
                have h1 : ∀ (E : Env), X.get (restr E (tmpsOf o.op)) i = none := by
                  intro E
                  induction E with
                  | nil => rfl
                  | cons p E ihE =>
                    obtain ⟨q, u⟩ := p
                    by_cases hq : q ∈ tmpsOf o.op
                    · have h3 : (tmpsOf o.op).contains q = true := by simpa using hq
                      have h2 : Nat.beq i q = false := by
                        cases hb : Nat.beq i q with
                        | false => rfl
                        | true => exact absurd (Nat.eq_of_beq_eq_true hb ▸ hq) hit
                      simp only [restr, List.filter_cons, h3, if_true, X.get, h2]
                      exact ihE
                    · have h3 : (tmpsOf o.op).contains q = false := by simpa using hq
                      simp only [restr, List.filter_cons, h3]
                      exact ihE
                rw [h1] at hi; cases hi
            · have hw : Region.wanted o (yielded ops a.tmps) = false := by
                have := hlook s (by simp [lookL, hg, hjj]) _ hgs
                simp only [Region.wanted, hg, yielded, hjj, Option.bind_some, this]
                cases u <;> simp [noB] at hno ⊢
                rename_i b
                cases b <;> cases want <;> simp at hno ⊢
              rw [if_neg (by simp [hw])]
              refine ⟨fun _ _ => trivial, ?_⟩
              have := hnew w (.refl _ _)
              rwa [hv] at this
          · -- the forced part begins
            refine goHigh (shift D a w ⟨hsz, hcl, .inl ⟨hlow, hsit, hview⟩⟩ (fun i hi => ?_))
            have hil : i < ops.toList.length := by omega
            rcases drawOk_pair hok' (List.getElem?_eq_getElem hil) ho (by omega) with h1 | ⟨h1, _⟩
            · exact hbef i h1
            · omega
        · exact goHigh hhigh
  have hin0 : ∀ i, inD (Array.replicate ops.size false) i = false := fun i => by
    simp only [inD, Array.getD_eq_getD_getElem?]
    by_cases h : i < ops.size <;> simp [h]
  have hk := Kept.drawn [] w (w.drawn + 1)
  have hs' := hs.step hk (fun _ h => by cases h) (hs.own.of_kept hk (fun _ _ h => by cases h)) (fun b hb => .inl hb)
  refine wpIn_region_any hm (main ops.size _ a _ ?_ ⟨by simp, ?_, .inl ⟨fun i _ => hin0 i, ⟨hs'.sz, hs'.df, fun i v h => by simp [X.get] at h, hs'.own, hs'.kept, hs'.wr⟩, ?_⟩⟩)
  · have : ∀ N, cnt (inD (Array.replicate ops.size false)) N = N := fun N => by
      induction N with
      | zero => rfl
      | succ N ih => simp only [cnt]; rw [ih, hin0]; simp
    exact this _
  · intro j o _ hD; rw [hin0] at hD; cases hD
  · intro s v hv
    have : ∀ k, view dst val e (inD (Array.replicate ops.size false)) s k = X.get e s := fun k => by
      induction k with
      | zero => rfl
      | succ k ih => simp only [view]; rw [ih, hin0]; simp
    rw [this] at hv
    exact hs'.env s v hv
end
end Go.X
