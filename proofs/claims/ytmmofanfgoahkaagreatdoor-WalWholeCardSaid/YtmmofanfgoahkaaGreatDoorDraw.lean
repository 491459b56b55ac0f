/- A region whose order is open: where its operations yield values and change no block, one walk in the order of the text serves every order; a last part that is forced may do more. -/
import Derived.Test.YtmmofanfgoahkaaGreatDoorCall
import Derived.OrdersIn
namespace Go.X
open Go

/-! ### What is forced to come ahead of what -/
def maskOf (bs : List Nat) (xs : List Edge) : Nat := xs.foldl (fun m x => Nat.lor m (Nat.lor (2 ^ x.on) (bs.getD x.on 0))) 0
/-- for each operation, as bits, those that are ahead of it -/
def masks (l : List Oper) : List Nat := l.foldl (fun bs o => bs ++ [maskOf bs (o.after.toList.filter (Region.binds .any))]) []
def befs (l : List Oper) : List (List Nat) := (masks l).map fun m => (List.range l.length).filter m.testBit
/-- the slots at which an operation looks -/
def lookL (ops : Array Oper) (o : Oper) : List Nat := tmpsOf o.op ++ (match o.guard with
  | some (g, _) => ((ops[g]?).bind (·.dst)).toList
  | none => [])
def clash (ops : Array Oper) (x y : Oper) : Bool :=
  match x.dst, y.dst with
  | some d, some c => (lookL ops y).contains d || (lookL ops x).contains c || d == c
  | some d, none => (lookL ops y).contains d
  | none, some c => (lookL ops x).contains c
  | none, none => false
/-- what is asked of the operations from k to k + m: edges lead back; what clashes is ordered. -/
def edgesOk (ops : Array Oper) : Bool :=
  let l := ops.toList
  (List.range l.length).all fun j => ((l.getD j default).after.toList.filter (Region.binds .any)).all fun x => Nat.blt x.on j
def pairOk (ops : Array Oper) (k m : Nat) : Bool :=
  let l := ops.toList
  let bs := masks l
  (List.range m).all fun j => (List.range j).all fun i => ((bs.getD (k + j) 0).testBit (k + i)) || !(clash ops (l.getD (k + i) default) (l.getD (k + j) default))
/-- whatever stands from k on waits for all that stands ahead of k -/
def cutOk (ops : Array Oper) (k : Nat) : Bool :=
  let l := ops.toList
  let bs := masks l
  (List.range l.length).all fun j => Nat.blt j k || Nat.beq (Nat.land (bs.getD j 0) (2 ^ k - 1)) (2 ^ k - 1)

section
theorem mask_fold {bs : List Nat} {i : Nat} : ∀ (xs : List Edge) (m : Nat), (xs.foldl (fun m x => Nat.lor m (Nat.lor (2 ^ x.on) (bs.getD x.on 0))) m).testBit i = true → m.testBit i = true ∨ ∃ x ∈ xs, i = x.on ∨ (bs.getD x.on 0).testBit i = true
  | [], m, h => .inl h
  | x :: xs, m, h => by
    rcases mask_fold xs _ h with h | ⟨y, hy, h⟩
    · have h' : (m ||| (2 ^ x.on ||| bs.getD x.on 0)).testBit i = true := h
      rw [Nat.testBit_or, Nat.testBit_or, Bool.or_eq_true, Bool.or_eq_true] at h'
      rcases h' with h | h | h
      · exact .inl h
      · exact .inr ⟨x, .head _, .inl ((Nat.testBit_two_pow (n := x.on) (m := i)) ▸ h |> fun h => (of_decide_eq_true h).symm)⟩
      · exact .inr ⟨x, .head _, .inr h⟩
    · exact .inr ⟨y, .tail _ hy, h⟩
theorem mask_mem {l : List Oper} (hback : ∀ j o, l[j]? = some o → ∀ x ∈ o.after.toList, Region.binds .any x = true → x.on < j) {j : Nat} {o : Oper} (ho : l[j]? = some o) {i : Nat} (hi : ((masks l).getD j 0).testBit i = true) :
    ∃ x ∈ o.after.toList, Region.binds .any x = true ∧ (i = x.on ∨ ((masks l).getD x.on 0).testBit i = true) := by
  have key : ∀ (k : Nat), k ≤ l.length → ∃ bs cs : List Nat, (l.take k).foldl (fun bs o => bs ++ [maskOf bs (o.after.toList.filter (Region.binds .any))]) [] = bs ∧ bs.length = k ∧
      masks l = bs ++ cs ∧ ∀ j o, j < k → l[j]? = some o → (bs.getD j 0).testBit i = true → ∃ x ∈ o.after.toList, Region.binds .any x = true ∧ (i = x.on ∨ (bs.getD x.on 0).testBit i = true) := by
    intro k
    induction k with
    | zero => intro _; exact ⟨[], masks l, by simp, rfl, rfl, fun j o hj => by omega⟩
    | succ k ih =>
      intro hk
      obtain ⟨bs, cs, h1, h2, h3, h4⟩ := ih (by omega)
      have hlt : k < l.length := hk
      have hok : l[k]? = some l[k] := List.getElem?_eq_getElem hlt
      have e1 : (l.take (k + 1)).foldl (fun bs o => bs ++ [maskOf bs (o.after.toList.filter (Region.binds .any))]) [] = bs ++ [maskOf bs (l[k].after.toList.filter (Region.binds .any))] := by
        rw [List.take_succ_eq_append_getElem hlt, List.foldl_append, h1]; rfl
      have hget : ∀ (N : List Nat) q, q < k → (bs ++ N).getD q 0 = bs.getD q 0 := fun N q hq => by
        simp only [List.getD_eq_getElem?_getD]; rw [List.getElem?_append_left (by omega)]
      have e2 : ∃ cs', masks l = (bs ++ [maskOf bs (l[k].after.toList.filter (Region.binds .any))]) ++ cs' := by
        have hgrow : ∀ (m : List Oper) (b0 : List Nat), ∃ c, m.foldl (fun bs o => bs ++ [maskOf bs (o.after.toList.filter (Region.binds .any))]) b0 = b0 ++ c := by
          intro m
          induction m with
          | nil => intro b0; exact ⟨[], by simp⟩
          | cons o m ihm => intro b0; obtain ⟨c, hc⟩ := ihm (b0 ++ [maskOf b0 (o.after.toList.filter (Region.binds .any))]); exact ⟨_, by rw [List.foldl_cons, hc, List.append_assoc]⟩
        obtain ⟨c, hc⟩ := hgrow (l.drop (k + 1)) (bs ++ [maskOf bs (l[k].after.toList.filter (Region.binds .any))])
        refine ⟨c, ?_⟩
        rw [← hc, ← e1, ← List.foldl_append, List.take_append_drop]; rfl
      obtain ⟨cs', e2⟩ := e2
      refine ⟨_, cs', e1, by simp [h2], e2, ?_⟩
      intro j o hj ho hi
      by_cases hjk : j = k
      · subst hjk
        have e3 : (bs ++ [maskOf bs (l[j].after.toList.filter (Region.binds .any))]).getD j 0 = maskOf bs (l[j].after.toList.filter (Region.binds .any)) := by
          simp only [List.getD_eq_getElem?_getD]; rw [List.getElem?_append_right (by omega), h2]; simp
        rw [e3] at hi
        have heq : l[j] = o := by rw [hok] at ho; exact Option.some.inj ho
        rcases mask_fold _ _ hi with hi | ⟨x, hx, hi⟩
        · simp at hi
        · obtain ⟨hx, hbx⟩ := List.mem_filter.1 hx
          have hx' : x ∈ o.after.toList := by rw [← heq]; exact hx
          refine ⟨x, hx', hbx, ?_⟩
          have hlx := hback j o ho x hx' hbx
          rw [hget _ _ hlx]
          exact hi
      · rw [hget _ _ (by omega)] at hi
        obtain ⟨x, h5, h6, h7⟩ := h4 j o (by omega) ho hi
        refine ⟨x, h5, h6, ?_⟩
        rw [hget _ _ (by have := hback j o ho x h5 h6; omega)]
        exact h7
  obtain ⟨bs, cs, h1, h2, h3, h4⟩ := key l.length (Nat.le_refl _)
  have e1 : masks l = bs := by rw [List.take_length] at h1; exact h1
  rw [e1] at hi ⊢
  exact h4 j o (List.getElem?_eq_some_iff.1 ho).1 ho hi
theorem masks_len (l : List Oper) : (masks l).length = l.length := by
  have hgrow : ∀ (m : List Oper) (b0 : List Nat), (m.foldl (fun bs o => bs ++ [maskOf bs (o.after.toList.filter (Region.binds .any))]) b0).length = b0.length + m.length := by
    intro m
    induction m with
    | nil => intro b0; rfl
    | cons o m ihm => intro b0; rw [List.foldl_cons, ihm]; simp; omega
  have := hgrow l []
  simpa [masks] using this
theorem mem_befs {l : List Oper} {j i : Nat} : i ∈ (befs l).getD j [] ↔ i < l.length ∧ ((masks l).getD j 0).testBit i = true := by
  unfold befs
  simp only [List.getD_eq_getElem?_getD, List.getElem?_map]
  by_cases hj : j < l.length
  · rw [List.getElem?_eq_getElem (by rw [masks_len]; exact hj)]
    simp
  · rw [List.getElem?_eq_none (by rw [masks_len]; omega)]
    simp
theorem befs_mem {l : List Oper} (hback : ∀ j o, l[j]? = some o → ∀ x ∈ o.after.toList, Region.binds .any x = true → x.on < j) {j : Nat} {o : Oper} (ho : l[j]? = some o) {i : Nat} (hi : i ∈ (befs l).getD j []) :
    ∃ x ∈ o.after.toList, Region.binds .any x = true ∧ (i = x.on ∨ i ∈ (befs l).getD x.on []) := by
  obtain ⟨h1, h2⟩ := mem_befs.1 hi
  obtain ⟨x, h3, h4, h5⟩ := mask_mem hback ho h2
  exact ⟨x, h3, h4, h5.imp id fun h => mem_befs.2 ⟨h1, h⟩⟩
theorem befs_closed {l : List Oper} {D : Nat → Bool} (hb : ∀ j o, l[j]? = some o → D j = true → ∀ x ∈ o.after.toList, Region.binds .any x = true → D x.on = true)
    (hback : ∀ j o, l[j]? = some o → ∀ x ∈ o.after.toList, Region.binds .any x = true → x.on < j) : ∀ j, j < l.length → D j = true → ∀ i ∈ (befs l).getD j [], D i = true := by
  intro j
  induction j using Nat.strongRecOn with
  | _ j ih =>
    intro hj hD i hi
    have ho : l[j]? = some l[j] := List.getElem?_eq_getElem hj
    obtain ⟨x, hx, hbx, hi⟩ := befs_mem hback ho hi
    have h1 := hb j _ ho hD x hx hbx
    have h2 := hback j _ ho x hx hbx
    rcases hi with rfl | hi
    · exact h1
    · exact ih x.on h2 (by omega) h1 i hi

/-- the operations that have been carried out -/
def inD (D : Array Bool) (i : Nat) : Bool := D.getD i false
theorem inD_set {D : Array Bool} {i k : Nat} (hi : i < D.size) : inD (D.setIfInBounds i true) k = if k = i then true else inD D k := by
  simp only [inD, Array.getD_eq_getD_getElem?]
  by_cases h : k = i
  · subst h; simp [hi]
  · rw [if_neg h, Array.getElem?_setIfInBounds_ne (fun e => h e.symm)]
def cnt (f : Nat → Bool) : Nat → Nat
  | 0 => 0
  | k + 1 => cnt f k + if f k = true then 0 else 1
theorem cnt_set {f g : Nat → Bool} {i : Nat} : ∀ N, i < N → f i = false → g i = true → (∀ k, k ≠ i → g k = f k) → cnt f N = cnt g N + 1
  | 0, h, _, _, _ => by omega
  | N + 1, h, h1, h2, h3 => by
    simp only [cnt]
    by_cases hi : i = N
    · subst hi
      have : ∀ M, M ≤ i → cnt g M = cnt f M := fun M => by
        induction M with
        | zero => intro _; rfl
        | succ M ih => intro hM; simp only [cnt]; rw [ih (by omega), h3 M (by omega)]
      rw [this i (Nat.le_refl _), h1, h2]; simp
    · rw [cnt_set N (by omega) h1 h2 h3, h3 N (fun e => hi e.symm)]; omega
theorem cnt_zero {f : Nat → Bool} : ∀ {N}, cnt f N = 0 → ∀ i, i < N → f i = true
  | 0, _, i, hi => by omega
  | N + 1, h, i, hi => by
    simp only [cnt] at h
    by_cases hN : f N = true
    · by_cases hi' : i = N
      · rw [hi']; exact hN
      · exact cnt_zero (by rw [if_pos hN] at h; omega) i (by omega)
    · rw [if_neg hN] at h; omega

theorem edgesOk_back {ops : Array Oper} (h : edgesOk ops = true) : ∀ j o, ops.toList[j]? = some o → ∀ x ∈ o.after.toList, Region.binds .any x = true → x.on < j := by
  intro j o ho x hx hb
  have hlt : j < ops.toList.length := (List.getElem?_eq_some_iff.1 ho).1
  simp only [edgesOk, List.all_eq_true, List.mem_range] at h
  have := h j hlt x (by rw [List.getD_eq_getElem?_getD, ho]; simpa using ⟨by simpa using hx, hb⟩)
  simpa [Nat.blt_eq] using this
theorem pairOk_get {ops : Array Oper} {k m : Nat} (h : pairOk ops k m = true) {i j : Nat} {x y : Oper} (hx : ops.toList[k + i]? = some x) (hy : ops.toList[k + j]? = some y) (hij : i < j) (hj : j < m) :
    k + i ∈ (befs ops.toList).getD (k + j) [] ∨ clash ops x y = false := by
  simp only [pairOk, List.all_eq_true, List.mem_range] at h
  have := h j hj i hij
  have e1 : ops.toList.getD (k + i) default = x := by rw [List.getD_eq_getElem?_getD, hx]; rfl
  have e2 : ops.toList.getD (k + j) default = y := by rw [List.getD_eq_getElem?_getD, hy]; rfl
  rw [e1, e2] at this
  simp only [Bool.or_eq_true] at this
  rcases this with h1 | h1
  · exact .inl (mem_befs.2 ⟨(List.getElem?_eq_some_iff.1 hx).1, h1⟩)
  · exact .inr (by simpa using h1)
theorem cutOk_get {ops : Array Oper} {k : Nat} (h : cutOk ops k = true) {i j : Nat} (hj : j < ops.toList.length) (hi : i < k) (hk : k ≤ j) : i ∈ (befs ops.toList).getD j [] := by
  simp only [cutOk, List.all_eq_true, List.mem_range, Bool.or_eq_true] at h
  rcases h j hj with h1 | h1
  · have : j < k := by simpa [Nat.blt_eq] using h1
    omega
  · have h2 : (masks ops.toList).getD j 0 &&& (2 ^ k - 1) = 2 ^ k - 1 := Nat.eq_of_beq_eq_true h1
    refine mem_befs.2 ⟨by omega, ?_⟩
    have h3 := congrArg (Nat.testBit · i) h2
    simp only [Nat.testBit_and, Nat.testBit_two_pow_sub_one, decide_eq_true hi, Bool.and_true] at h3
    exact h3
theorem clash_symm (ops : Array Oper) (x y : Oper) : clash ops x y = clash ops y x := by
  unfold clash
  cases hx : x.dst <;> cases hy : y.dst <;> simp only []
  rename_i d c
  rw [Bool.or_comm ((lookL ops y).contains d), show (d == c) = (c == d) from by rw [Bool.eq_iff_iff]; simp only [beq_iff_eq]; exact eq_comm]

theorem mem_ready {md : Region.Mode} {ops : Array Oper} {D : Array Bool} (hD : D.size = ops.size) {j : Nat} : j ∈ Region.ready md ops D ↔ ∃ o, ops.toList[j]? = some o ∧ inD D j = false ∧ ∀ x ∈ o.after.toList, Region.binds md x = true → inD D x.on = true := by
  simp only [Region.ready, List.mem_filter, List.mem_range, Bool.and_eq_true, Bool.not_eq_true']
  constructor
  · rintro ⟨h1, h2, h3⟩
    refine ⟨ops[j], by simp [h1], ?_, ?_⟩
    · simp only [inD, Array.getD_eq_getD_getElem?] at h2 ⊢
      have hs : j < D.size := by omega
      simp [hs] at h2 ⊢; exact h2
    · simp [h1] at h3
      intro x hx hb
      obtain ⟨k, hk, rfl⟩ := List.getElem_of_mem hx
      have := h3 k (by simpa using hk)
      simp at hb this
      rcases this with h | h
      · rw [hb] at h; cases h
      · simpa [inD] using h
  · rintro ⟨o, ho, h2, h3⟩
    have h1 : j < ops.size := by have := (List.getElem?_eq_some_iff.1 ho).1; simpa using this
    have ho' : ops[j] = o := by simpa [h1] using ho
    refine ⟨h1, ?_, ?_⟩
    · simp only [inD, Array.getD_eq_getD_getElem?] at h2 ⊢
      have hs : j < D.size := by omega
      simp [hs] at h2 ⊢; exact h2
    · simp only [h1, getElem?_pos, Option.map_some, Option.getD_some, ho']
      rw [Array.all_eq_true]
      intro k hk
      by_cases hb : Region.binds md o.after[k] = true
      · simp only [hb, Bool.not_true, Bool.false_or]
        have := h3 o.after[k] (by simp) hb
        simpa [inD] using this
      · simp [hb]

theorem cnt_all {f : Nat → Bool} : ∀ {N}, (∀ i, i < N → f i = true) → cnt f N = 0
  | 0, _ => rfl
  | N + 1, h => by simp only [cnt]; rw [cnt_all (fun i hi => h i (by omega)), h N (by omega)]; rfl
theorem first_false {f : Nat → Bool} : ∀ N, (∀ i, i < N → f i = true) ∨ ∃ j, j < N ∧ f j = false ∧ ∀ i, i < j → f i = true
  | 0 => .inl fun i hi => by omega
  | N + 1 => by
    rcases first_false (f := f) N with h | ⟨j, h1, h2⟩
    · cases hN : f N with
      | true =>
        refine .inl fun i hi => ?_
        by_cases e : i = N
        · rw [e]; exact hN
        · exact h i (by omega)
      | false => exact .inr ⟨N, by omega, hN, h⟩
    · exact .inr ⟨j, by omega, h2⟩

theorem clash_of_look {ops : Array Oper} {x y : Oper} {d s : Nat} (hx : x.dst = some d) (hs : s ∈ lookL ops y) (hd : d = s) : clash ops x y = true := by
  subst hd
  have h1 : (lookL ops y).contains d = true := by simpa using hs
  unfold clash
  rw [hx]
  cases y.dst with
  | none => exact h1
  | some c => simp only [h1, Bool.true_or]
theorem clash_of_dst {ops : Array Oper} {x y : Oper} {d : Nat} (hx : x.dst = some d) (hy : y.dst = some d) : clash ops x y = true := by
  unfold clash; rw [hx, hy]; simp
end

section
variable {P : Program} {r : Option Nat} {w0 : World} {B : List Nat} {n : Nat} {Q : Post} {e : Env} {ds : List Deferred} {L : Heap}

/-- The region from k on, all ahead of k being done, in whatever order. -/
def RS (P : Program) (r : Option Nat) (ops : Array Oper) (Q : Post) (k : Nat) (a : Act) (w : World) : Prop :=
  ∀ D : Array Bool, D.size = ops.size → (∀ i, i < ops.size → inD D i = decide (i < k)) → wpAnyIn (FW r) 0 P .any ops Q (cnt (inD D) ops.size) D a w
/-- The walk of a region that draws its order, where all ahead of l is done. -/
structure XR (P : Program) (r : Option Nat) (w0 : World) (B : List Nat) (n : Nat) (ops : Array Oper) (l : List Oper) (Q : Post) (e : Env) (ds : List Deferred) (L : Heap) : Prop where
  run : (∃ pre, pre ++ l = ops.toList) → edgesOk ops = true → ∀ a w, Sit w0 B n e ds L a w → RS P r ops Q (ops.size - l.length) a w

theorem XC.drawR {rid : Nat} {ops : Array Oper} (hm : P.follows .mixedOrders = true) (he : edgesOk ops = true) (h : XR P r w0 B n ops ops.toList Q e ds L) : XC P r w0 B n (.region rid ops true) Q e ds L := by
  refine ⟨fun a w hs => wpIn_region_any hm ?_⟩
  have hk := Kept.drawn [] w (w.drawn + 1)
  have hs' := hs.step hk (fun _ h => by cases h) (hs.own.of_kept hk (fun _ _ h => by cases h)) (fun b hb => .inl hb)
  have hin0 : ∀ i, inD (Array.replicate ops.size false) i = false := fun i => by
    simp only [inD, Array.getD_eq_getD_getElem?]
    by_cases h : i < ops.size <;> simp [h]
  have h1 := h.run ⟨[], rfl⟩ he a _ hs' (Array.replicate ops.size false) (by simp) (fun i hi => by rw [hin0]; simp)
  have : ∀ N, cnt (inD (Array.replicate ops.size false)) N = N := fun N => by
    induction N with
    | zero => rfl
    | succ N ih => simp only [cnt]; rw [ih, hin0]; simp
  rwa [this] at h1

theorem RS.done {ops : Array Oper} {k : Nat} {a : Act} {w : World} (hk : ops.size ≤ k) (h : Q .normal a w) : RS P r ops Q k a w := by
  intro D hD hin
  have hall : ∀ i, i < ops.size → inD D i = true := fun i hi => by rw [hin i hi]; simp; omega
  rw [cnt_all hall]
  refine ⟨?_, h⟩
  cases hr : Region.ready .any ops D with
  | nil => rfl
  | cons j js =>
    obtain ⟨o, ho, h1, _⟩ := (mem_ready hD).1 (hr ▸ List.mem_cons_self : j ∈ Region.ready .any ops D)
    have hlt := (List.getElem?_eq_some_iff.1 ho).1
    simp only [Array.length_toList] at hlt
    rw [hall j hlt] at h1; cases h1
theorem XR.nil {ops : Array Oper} (h : XE w0 B n .normal Q e ds L) : XR P r w0 B n ops [] Q e ds L :=
  ⟨fun _ _ a w hs => .done (by simp) (h.run a w hs)⟩

theorem cnt_pos {D : Array Bool} {N k : Nat} (hin : ∀ i, i < N → inD D i = decide (i < k)) (hk : k < N) : ∃ f, cnt (inD D) N = f + 1 := by
  cases hc : cnt (inD D) N with
  | zero => have := cnt_zero hc k hk; rw [hin k hk] at this; simp at this
  | succ f => exact ⟨f, rfl⟩
theorem ready_ne {ops : Array Oper} {D : Array Bool} {k : Nat} (he : edgesOk ops = true) (hD : D.size = ops.size) (hin : ∀ i, i < ops.size → inD D i = decide (i < k)) (hk : k < ops.size) : k ∈ Region.ready .any ops D := by
  have hl : k < ops.toList.length := by simpa using hk
  have ho : ops.toList[k]? = some ops.toList[k] := List.getElem?_eq_getElem hl
  refine (mem_ready hD).2 ⟨_, ho, by rw [hin k hk]; simp, fun x hx hb => ?_⟩
  have := edgesOk_back he k _ ho x hx hb
  rw [hin _ (by omega)]; simpa using this
theorem ready_befs {ops : Array Oper} {D : Array Bool} (he : edgesOk ops = true) (hD : D.size = ops.size) (hcl : ∀ j o, ops.toList[j]? = some o → inD D j = true → ∀ x ∈ o.after.toList, Region.binds .any x = true → inD D x.on = true)
    {j : Nat} (hj : j ∈ Region.ready .any ops D) : ∀ i ∈ (befs ops.toList).getD j [], inD D i = true := by
  obtain ⟨o, ho, _, hedge⟩ := (mem_ready hD).1 hj
  have hback := edgesOk_back he
  intro i hi
  obtain ⟨x, hx, hb, hi⟩ := befs_mem hback ho hi
  have h1 := hedge x hx hb
  rcases hi with rfl | hi
  · exact h1
  · have hjl := (List.getElem?_eq_some_iff.1 ho).1
    exact befs_closed hcl hback x.on (by have := hback j o ho x hx hb; omega) h1 i hi
theorem closed_of {ops : Array Oper} {D : Array Bool} {k : Nat} (he : edgesOk ops = true) (hin : ∀ i, i < ops.size → inD D i = decide (i < k)) :
    ∀ j o, ops.toList[j]? = some o → inD D j = true → ∀ x ∈ o.after.toList, Region.binds .any x = true → inD D x.on = true := by
  intro j o ho hj x hx hb
  have h1 := edgesOk_back he j o ho x hx hb
  have hlt := (List.getElem?_eq_some_iff.1 ho).1
  simp only [Array.length_toList] at hlt
  rw [hin j hlt] at hj
  rw [hin _ (by omega)]
  simp at hj ⊢; omega
/-- One operation that all that follows waits for. -/
theorem RS.step {ops : Array Oper} {k : Nat} {a : Act} {w : World} {o : Oper} (he : edgesOk ops = true) (hc : cutOk ops (k + 1) = true) (ho : ops.toList[k]? = some o)
    (h : wpOpIn (FW r) 0 P ops Q k (RS P r ops Q (k + 1)) a w) : RS P r ops Q k a w := by
  intro D hD hin
  have hkl : k < ops.toList.length := (List.getElem?_eq_some_iff.1 ho).1
  have hks : k < ops.size := by simpa using hkl
  obtain ⟨f, hf⟩ := cnt_pos hin hks
  rw [hf]
  refine ⟨fun hr => ?_, fun i hi => ?_⟩
  · have := ready_ne he hD hin hks; rw [hr] at this; cases this
  · have hik : i = k := by
      obtain ⟨o', ho', h1, _⟩ := (mem_ready hD).1 hi
      have hil := (List.getElem?_eq_some_iff.1 ho').1
      rcases Nat.lt_trichotomy i k with h2 | h2 | h2
      · rw [hin i (by omega)] at h1; simp [h2] at h1
      · exact h2
      · have := ready_befs he hD (closed_of he hin) hi k (cutOk_get hc hil (by omega) (by omega))
        rw [hin k hks] at this; simp at this
    subst hik
    refine wpOpIn_mono (fun a' w' h' => ?_) h
    have h2 := h' (D.setIfInBounds i true) (by simp [hD]) (fun q hq => by
      rw [inD_set (by omega)]
      by_cases e : q = i
      · simp [e]
      · rw [if_neg e, hin q hq]
        have : (q < i) ↔ (q < i + 1) := by omega
        simp [this])
    have h3 : cnt (inD (D.setIfInBounds i true)) ops.size = f := by
      have := cnt_set (f := inD D) ops.size hks (by rw [hin i hks]; simp) (g := inD (D.setIfInBounds i true)) (by rw [inD_set (by omega)]; simp) (fun q hq => by rw [inD_set (by omega)]; simp [hq])
      omega
    rwa [h3] at h2
theorem wpIn_then {o : Oper} {a : Act} {w : World} {K K0 : Act → World → Prop} (h : o.wpIn (FW r) 0 P a w K (Exit.then K0 Q)) : o.wpIn (FW r) 0 P a w K Q := by
  refine ⟨h.1, ?_⟩
  have h2 := h.2
  generalize (o.semAt (FW r).round a.eval).run P w = q at h2 ⊢
  cases q with
  | ok x w' => cases x <;> exact h2
  | halt x w' => cases x <;> exact h2
theorem XR.seq {ops : Array Oper} {o : Oper} {l : List Oper} (hc : cutOk ops (ops.size - l.length) = true)
    (h : XL P r w0 B n ops [o] (Exit.then (fun a w => RS P r ops Q (ops.size - l.length) a w) Q) e ds L) : XR P r w0 B n ops (o :: l) Q e ds L := by
  refine ⟨fun ⟨pre, hp⟩ he a w hs => ?_⟩
  have hlen : ops.size = pre.length + (l.length + 1) := by rw [← Array.length_toList, ← hp]; simp
  have hk : ops.size - l.length = (ops.size - (o :: l).length) + 1 := by simp; omega
  have ho : ops.toList[ops.size - (o :: l).length]? = some o := by
    rw [← hp, List.getElem?_append_right (by simp; omega)]
    have : ops.size - (o :: l).length - pre.length = 0 := by simp; omega
    rw [this]; rfl
  rw [hk] at hc h
  refine RS.step he hc ho ?_
  have h1 := h.run a w hs
  have ho' : ops[ops.size - (o :: l).length]? = some o := by simpa using ho
  unfold wpOpIn
  simp only [ho']
  simp only [wpListIn] at h1
  split
  · rename_i hw
    rw [if_pos hw] at h1
    exact wpIn_then h1
  · rename_i hw
    rw [if_neg hw] at h1
    exact h1
theorem XE.toR {ops : Array Oper} {l : List Oper} (hp : ∃ pre, pre ++ l = ops.toList) (he : edgesOk ops = true) (h : XR P r w0 B n ops l Q e ds L) :
    XE w0 B n .normal (Exit.then (fun a w => RS P r ops Q (ops.size - l.length) a w) Q) e ds L := ⟨fun a w hs => h.run hp he a w hs⟩
/-- All that is left is forced. -/
theorem XR.tail {ops : Array Oper} {l : List Oper} (hc : (List.range (l.length + 1)).all (fun i => cutOk ops (ops.size - i)) = true) (h : XL P r w0 B n ops l Q e ds L) : XR P r w0 B n ops l Q e ds L := by
  refine ⟨fun hp he a w hs => ?_⟩
  have key : ∀ (l : List Oper), (∃ pre, pre ++ l = ops.toList) → (∀ i, i ≤ l.length → cutOk ops (ops.size - i) = true) → ∀ a w, wpListIn (FW r) 0 P ops Q l a w → RS P r ops Q (ops.size - l.length) a w := by
    intro l
    induction l with
    | nil => intro _ _ a w h; exact .done (by simp) h
    | cons o l ih =>
      intro ⟨pre, hp⟩ hc a w h
      have hlen : ops.size = pre.length + (l.length + 1) := by rw [← Array.length_toList, ← hp]; simp
      have hk : ops.size - l.length = (ops.size - (o :: l).length) + 1 := by simp; omega
      have ho : ops.toList[ops.size - (o :: l).length]? = some o := by
        rw [← hp, List.getElem?_append_right (by simp; omega)]
        have : ops.size - (o :: l).length - pre.length = 0 := by simp; omega
        rw [this]; rfl
      have ih' := ih ⟨pre ++ [o], by rw [← hp]; simp⟩ (fun i hi => hc i (by simp; omega))
      rw [hk] at ih'
      refine RS.step he (by rw [← hk]; exact hc _ (by simp)) ho ?_
      have ho' : ops[ops.size - (o :: l).length]? = some o := by simpa using ho
      unfold wpOpIn
      simp only [ho']
      simp only [wpListIn] at h
      split
      · rename_i hw
        rw [if_pos hw] at h
        exact Oper.wpIn_mono ih' h
      · rename_i hw
        rw [if_neg hw] at h
        exact ⟨h.1, ih' _ _ h.2⟩
  simp only [List.all_eq_true, List.mem_range] at hc
  exact key l hp (fun i hi => hc i (by omega)) a w (h.run a w hs)

/-! ### A phase: operations that yield values and change no block, in whatever order; some make memory that is known by a property alone -/
abbrev Soft := List (Nat × (Value → Heap → Prop))
def offS (S : Soft) (d : Nat) : Bool := S.all fun p => !(Nat.beq p.1 d)
/-- An operation that makes memory. -/
structure Makes (P : Program) (r : Option Nat) (w0 : World) (B : List Nat) (n : Nat) (ds : List Deferred) (L : Heap) (op : Op) (ty : TypeId) (e : Env) (Φ : Value → Heap → Prop) : Prop where
  at_ : ∀ (d : Option Nat) (pos : String) (af : Array Edge) (g : Option (Nat × Bool)) (a : Act) (w : World), Sit w0 B n (restr e (tmpsOf op)) ds L a w →
    ∀ (K : Act → World → Prop) (Qx : Post), (∀ v H w', Φ v H → Kept [] w w' → Owns w' H → (∀ b ∈ ids H, w.heap.size ≤ b) → K (a.put d v) w') → Oper.wpIn (FW r) 0 P ⟨d, op, ty, pos, af, g⟩ a w K Qx

/-- An operation that takes the entries C, and leaves others for them. -/
structure Mut (P : Program) (r : Option Nat) (w0 : World) (B : List Nat) (n : Nat) (ds : List Deferred) (L C : Heap) (op : Op) (ty : TypeId) (e : Env) (Φ : Value → Heap → Prop) : Prop where
  at_ : ∀ (d : Option Nat) (pos : String) (af : Array Edge) (g : Option (Nat × Bool)) (a : Act) (w : World), Sit w0 B n (restr e (tmpsOf op)) ds (C ++ L) a w →
    ∀ (K : Act → World → Prop) (Qx : Post), (∀ v H w', Φ v H → Kept (ids C) w w' → Owns w' H → (∀ b ∈ ids H, b ∈ ids C ∨ w.heap.size ≤ b) → K (a.put d v) w') → Oper.wpIn (FW r) 0 P ⟨d, op, ty, pos, af, g⟩ a w K Qx

inductive El where
  | det (v : Value)
  | soft (mu : Bool) (Φ : Value → Heap → Prop)
def El.env (d : Nat) (e : Env) : El → Env
  | .det v => (d, v) :: e
  | .soft _ _ => e
def El.sft (d : Nat) (S : Soft) : El → Soft
  | .det _ => S
  | .soft _ Φ => (d, Φ) :: S
def El.cns (C : Option Heap) : El → Option Heap
  | .soft true _ => none
  | _ => C
def Asks (ops : Array Oper) (o : Oper) (e : Env) : Prop := o.guard = none ∨ ∃ j want s, o.guard = some (j, want) ∧ (ops[j]?).bind (·.dst) = some s ∧ get e s = some (.bool want)
def StepQ (P : Program) (r : Option Nat) (w0 : World) (B : List Nat) (n : Nat) (ds : List Deferred) (L : Heap) (ops : Array Oper) (o : Oper) (e : Env) (S : Soft) (C : Option Heap) (d : Nat) : El → Prop
  | .det v => (Asks ops o e ∧ Quiet P r w0 B n ds L o.op o.type e v) ∨
    ((∃ j want s u, o.guard = some (j, want) ∧ (ops[j]?).bind (·.dst) = some s ∧ get e s = some u ∧ noB want u = true) ∧ v = undef) ∨
    (Asks ops o e ∧ ∃ s Φ, (s, Φ) ∈ S ∧ s ∈ tmpsOf o.op ∧ ∀ u H, Φ u H → Quiet P r w0 B n ds (H ++ L) o.op o.type ((s, u) :: e) v)
  | .soft false Φ => Asks ops o e ∧ get e d = none ∧ Makes P r w0 B n ds L o.op o.type e Φ
  | .soft true Φ => Asks ops o e ∧ get e d = none ∧ ∃ C0, C = some C0 ∧ (Mut P r w0 B n ds L C0 o.op o.type e Φ ∨ ∃ s Ψ, (s, Ψ) ∈ S ∧ s ∈ tmpsOf o.op ∧ ∀ u H, Ψ u H → Mut P r w0 B n ds (H ++ L) C0 o.op o.type ((s, u) :: e) Φ)
def QL (P : Program) (r : Option Nat) (w0 : World) (B : List Nat) (n : Nat) (ds : List Deferred) (L : Heap) (ops : Array Oper) : List Oper → Env → Soft → Option Heap → Env → Soft → Option Heap → Prop
  | [], e, S, C, e', S', C' => e = e' ∧ S = S' ∧ C = C'
  | o :: l, e, S, C, e', S', C' => ∃ d x, o.dst = some d ∧ Nat.blt d n = true ∧ offS S d = true ∧ StepQ P r w0 B n ds L ops o e S C d x ∧ QL P r w0 B n ds L ops l (x.env d e) (x.sft d S) (x.cns C) e' S' C'
def Close : Soft → Env → Heap → (Env → Heap → Prop) → Prop
  | [], e, L, G => G e L
  | (s, Φ) :: S, e, L, G => ∀ v H, Φ v H → Close S ((s, v) :: e) (H ++ L) G
def drawOk (ops : Array Oper) (m : Nat) : Bool := edgesOk ops && pairOk ops 0 m && (List.range (ops.size - m + 1)).all fun i => cutOk ops (ops.size - i)
/-- The walk of a phase: l is what is left of the region, in the order of the text. -/
structure XD (P : Program) (r : Option Nat) (w0 : World) (B : List Nat) (n : Nat) (ops : Array Oper) (l : List Oper) (Q : Post) (e : Env) (ds : List Deferred) (L : Heap) (S : Soft) (C : Option Heap) : Prop where
  parts : ∃ l1 l2 e' S' C', l = l1 ++ l2 ∧ QL P r w0 B n ds L ops l1 e S C e' S' C' ∧ edgesOk ops = true ∧ pairOk ops 0 (ops.size - l2.length) = true ∧ cutOk ops (ops.size - l2.length) = true ∧
    (Close S' e' (C'.getD [] ++ L) (fun e L => XR P r w0 B n ops l2 Q e ds L) ∨ XR P r w0 B n ops l2 Q e' ds (C'.getD [] ++ L))

variable {S : Soft} {C : Option Heap}
theorem drawOk_parts {ops : Array Oper} {m : Nat} (h : drawOk ops m = true) (hm : m ≤ ops.size) : edgesOk ops = true ∧ pairOk ops 0 m = true ∧ cutOk ops m = true ∧ (List.range (ops.size - m + 1)).all (fun i => cutOk ops (ops.size - i)) = true := by
  simp only [drawOk, Bool.and_eq_true] at h
  refine ⟨h.1.1, h.1.2, ?_, h.2⟩
  have := List.all_eq_true.1 h.2 (ops.size - m) (by simp)
  rwa [show ops.size - (ops.size - m) = m by omega] at this
theorem XD.toR {ops : Array Oper} {l : List Oper} (he : edgesOk ops = true) (hp : pairOk ops 0 (ops.size - l.length) = true) (hc : cutOk ops (ops.size - l.length) = true) (h : Close S e (C.getD [] ++ L) (fun e L => XR P r w0 B n ops l Q e ds L)) : XD P r w0 B n ops l Q e ds L S C :=
  ⟨[], l, e, S, C, rfl, ⟨rfl, rfl, rfl⟩, he, hp, hc, .inl h⟩
/-- what was made is not needed any more -/
theorem XD.toRF {ops : Array Oper} {l : List Oper} (he : edgesOk ops = true) (hp : pairOk ops 0 (ops.size - l.length) = true) (hc : cutOk ops (ops.size - l.length) = true) (h : XR P r w0 B n ops l Q e ds (C.getD [] ++ L)) : XD P r w0 B n ops l Q e ds L S C :=
  ⟨[], l, e, S, C, rfl, ⟨rfl, rfl, rfl⟩, he, hp, hc, .inr h⟩
theorem tail_range {ops : Array Oper} {l : List Oper} (h : (List.range (ops.size - (ops.size - l.length) + 1)).all (fun i => cutOk ops (ops.size - i)) = true) (hl : l.length ≤ ops.size) : (List.range (l.length + 1)).all (fun i => cutOk ops (ops.size - i)) = true := by
  rwa [show ops.size - (ops.size - l.length) = l.length by omega] at h
theorem XD.tailF {ops : Array Oper} {l : List Oper} (hl : Nat.ble l.length ops.size = true) (hc : drawOk ops (ops.size - l.length) = true) (h : XL P r w0 B n ops l Q e ds L) : XD P r w0 B n ops l Q e ds L S none := by
  obtain ⟨h1, h2, h3, h4⟩ := drawOk_parts hc (Nat.sub_le _ _)
  exact .toRF h1 h2 h3 (.tail (tail_range h4 (Nat.le_of_ble_eq_true hl)) h)
theorem XD.tail {ops : Array Oper} {l : List Oper} (hl : Nat.ble l.length ops.size = true) (hc : drawOk ops (ops.size - l.length) = true) (h : XL P r w0 B n ops l Q e ds L) : XD P r w0 B n ops l Q e ds L [] none := .tailF hl hc h
theorem XD.tail1 {ops : Array Oper} {l : List Oper} {s : Nat} {Φ : Value → Heap → Prop} (hl : Nat.ble l.length ops.size = true) (hc : drawOk ops (ops.size - l.length) = true) (h : ∀ v H, Φ v H → XL P r w0 B n ops l Q ((s, v) :: e) ds (H ++ L)) :
    XD P r w0 B n ops l Q e ds L [(s, Φ)] none := by
  obtain ⟨h1, h2, h3, h4⟩ := drawOk_parts hc (Nat.sub_le _ _)
  exact .toR h1 h2 h3 fun v H hφ => .tail (tail_range h4 (Nat.le_of_ble_eq_true hl)) (h v H hφ)
theorem XD.tail2 {ops : Array Oper} {l : List Oper} {s s' : Nat} {Φ Φ' : Value → Heap → Prop} (hl : Nat.ble l.length ops.size = true) (hc : drawOk ops (ops.size - l.length) = true)
    (h : ∀ v H, Φ v H → ∀ v' H', Φ' v' H' → XL P r w0 B n ops l Q ((s', v') :: (s, v) :: e) ds (H' ++ (H ++ L))) : XD P r w0 B n ops l Q e ds L [(s, Φ), (s', Φ')] none := by
  obtain ⟨h1, h2, h3, h4⟩ := drawOk_parts hc (Nat.sub_le _ _)
  exact .toR h1 h2 h3 fun v H hφ v' H' hφ' => .tail (tail_range h4 (Nat.le_of_ble_eq_true hl)) (h v H hφ v' H' hφ')
theorem XD.nilF {ops : Array Oper} (hc : drawOk ops ops.size = true) (h : XE w0 B n .normal Q e ds L) : XD P r w0 B n ops [] Q e ds L S none := .tailF rfl hc (.nil h)
theorem XD.nil {ops : Array Oper} (hc : drawOk ops ops.size = true) (h : XE w0 B n .normal Q e ds L) : XD P r w0 B n ops [] Q e ds L [] none := .nilF hc h
theorem XD.step {ops : Array Oper} {o : Oper} {rest : List Oper} {d : Nat} (x : El) (ho : o.dst = some d) (hd : Nat.blt d n = true) (hS : offS S d = true) (hq : StepQ P r w0 B n ds L ops o e S C d x)
    (h : XD P r w0 B n ops rest Q (x.env d e) ds L (x.sft d S) (x.cns C)) : XD P r w0 B n ops (o :: rest) Q e ds L S C := by
  obtain ⟨l1, l2, e', S', C', rfl, h1, h2, h3, h4, h5⟩ := h.parts
  exact ⟨o :: l1, l2, e', S', C', rfl, ⟨d, x, ho, hd, hS, hq, h1⟩, h2, h3, h4, h5⟩
theorem XD.q {ops : Array Oper} {rest : List Oper} {d : Nat} {op : Op} {ty : TypeId} {pos : String} {af : Array Edge} {v : Value}
    (hq : Quiet P r w0 B n ds L op ty e v) (hd : Nat.blt d n = true)
    (h : XD P r w0 B n ops rest Q ((d, v) :: e) ds L S C) (hS : offS S d = true := by rfl) : XD P r w0 B n ops (⟨some d, op, ty, pos, af, none⟩ :: rest) Q e ds L S C :=
  .step (.det v) rfl hd hS (.inl ⟨.inl rfl, hq⟩) h
theorem XD.qY {ops : Array Oper} {rest : List Oper} {d : Nat} {op : Op} {ty : TypeId} {pos : String} {af : Array Edge} {v : Value} {j s : Nat} {want b : Bool}
    (hj : (ops[j]?).bind (·.dst) = some s) (hb : get e s = some (.bool b)) (hw : b = want) (hq : Quiet P r w0 B n ds L op ty e v) (hd : Nat.blt d n = true)
    (h : XD P r w0 B n ops rest Q ((d, v) :: e) ds L S C) (hS : offS S d = true := by rfl) : XD P r w0 B n ops (⟨some d, op, ty, pos, af, some (j, want)⟩ :: rest) Q e ds L S C :=
  .step (.det v) rfl hd hS (.inl ⟨.inr ⟨j, want, s, rfl, hj, hw ▸ hb⟩, hq⟩) h
theorem XD.qN {ops : Array Oper} {rest : List Oper} {d : Nat} {op : Op} {ty : TypeId} {pos : String} {af : Array Edge} {u : Value} {j s : Nat} {want : Bool}
    (hj : (ops[j]?).bind (·.dst) = some s) (hb : get e s = some u) (hw : noB want u = true) (hd : Nat.blt d n = true)
    (h : XD P r w0 B n ops rest Q ((d, undef) :: e) ds L S C) (hS : offS S d = true := by rfl) : XD P r w0 B n ops (⟨some d, op, ty, pos, af, some (j, want)⟩ :: rest) Q e ds L S C :=
  .step (.det undef) rfl hd hS (.inr (.inl ⟨⟨j, want, s, u, rfl, hj, hb, hw⟩, rfl⟩)) h
/-- memory is made -/
theorem XD.make {ops : Array Oper} {rest : List Oper} {d : Nat} {op : Op} {ty : TypeId} {pos : String} {af : Array Edge} {Φ : Value → Heap → Prop}
    (hq : Makes P r w0 B n ds L op ty e Φ) (hd : Nat.blt d n = true) (hn : get e d = none)
    (h : XD P r w0 B n ops rest Q e ds L ((d, Φ) :: S) C) (hS : offS S d = true := by rfl) : XD P r w0 B n ops (⟨some d, op, ty, pos, af, none⟩ :: rest) Q e ds L S C :=
  .step (.soft false Φ) rfl hd hS ⟨.inl rfl, hn, hq⟩ h
/-- what stands aside is taken -/
theorem XD.mut {ops : Array Oper} {rest : List Oper} {d : Nat} {op : Op} {ty : TypeId} {pos : String} {af : Array Edge} {Φ : Value → Heap → Prop} {C0 : Heap}
    (hq : Mut P r w0 B n ds L C0 op ty e Φ) (hd : Nat.blt d n = true) (hn : get e d = none)
    (h : XD P r w0 B n ops rest Q e ds L ((d, Φ) :: S) none) (hS : offS S d = true := by rfl) : XD P r w0 B n ops (⟨some d, op, ty, pos, af, none⟩ :: rest) Q e ds L S (some C0) :=
  .step (.soft true Φ) rfl hd hS ⟨.inl rfl, hn, C0, rfl, .inl hq⟩ h
theorem XD.mutLook {ops : Array Oper} {rest : List Oper} {d s : Nat} {op : Op} {ty : TypeId} {pos : String} {af : Array Edge} {Φ Ψ : Value → Heap → Prop} {C0 : Heap}
    (hs : (s, Ψ) ∈ S) (ht : (tmpsOf op).contains s = true) (hq : ∀ u H, Ψ u H → Mut P r w0 B n ds (H ++ L) C0 op ty ((s, u) :: e) Φ) (hd : Nat.blt d n = true) (hn : get e d = none)
    (h : XD P r w0 B n ops rest Q e ds L ((d, Φ) :: S) none) (hS : offS S d = true := by rfl) : XD P r w0 B n ops (⟨some d, op, ty, pos, af, none⟩ :: rest) Q e ds L S (some C0) :=
  .step (.soft true Φ) rfl hd hS ⟨.inl rfl, hn, C0, rfl, .inr ⟨s, Ψ, hs, by simpa using ht, hq⟩⟩ h
/-- what was made is looked at -/
theorem XD.look {ops : Array Oper} {rest : List Oper} {d s : Nat} {op : Op} {ty : TypeId} {pos : String} {af : Array Edge} {v : Value} {Φ : Value → Heap → Prop}
    (hs : (s, Φ) ∈ S) (ht : (tmpsOf op).contains s = true) (hq : ∀ u H, Φ u H → Quiet P r w0 B n ds (H ++ L) op ty ((s, u) :: e) v) (hd : Nat.blt d n = true)
    (h : XD P r w0 B n ops rest Q ((d, v) :: e) ds L S C) (hS : offS S d = true := by rfl) : XD P r w0 B n ops (⟨some d, op, ty, pos, af, none⟩ :: rest) Q e ds L S C :=
  .step (.det v) rfl hd hS (.inr (.inr ⟨.inl rfl, s, Φ, hs, by simpa using ht, hq⟩)) h

/-! #### The places of a phase -/
def Ei (dst : Nat → Nat) (el : Nat → El) (e : Env) : Nat → Env
  | 0 => e
  | i + 1 => (el i).env (dst i) (Ei dst el e i)
def Si (dst : Nat → Nat) (el : Nat → El) (S : Soft) : Nat → Soft
  | 0 => S
  | i + 1 => (el i).sft (dst i) (Si dst el S i)
theorem Ei_shift {dst : Nat → Nat} {el : Nat → El} {e : Env} {d : Nat} {x : El} : ∀ i,
    Ei (fun k => match k with | 0 => d | k + 1 => dst k) (fun k => match k with | 0 => x | k + 1 => el k) e (i + 1) = Ei dst el (x.env d e) i
  | 0 => rfl
  | i + 1 => by
    have := Ei_shift (dst := dst) (el := el) (e := e) (d := d) (x := x) i
    show (el i).env (dst i) (Ei _ _ e (i + 1)) = (el i).env (dst i) (Ei dst el (x.env d e) i)
    rw [this]
theorem Si_shift {dst : Nat → Nat} {el : Nat → El} {S : Soft} {d : Nat} {x : El} : ∀ i,
    Si (fun k => match k with | 0 => d | k + 1 => dst k) (fun k => match k with | 0 => x | k + 1 => el k) S (i + 1) = Si dst el (x.sft d S) i
  | 0 => rfl
  | i + 1 => by
    have := Si_shift (dst := dst) (el := el) (S := S) (d := d) (x := x) i
    show (el i).sft (dst i) (Si _ _ S (i + 1)) = (el i).sft (dst i) (Si dst el (x.sft d S) i)
    rw [this]
def Cix (el : Nat → El) (C : Option Heap) : Nat → Option Heap
  | 0 => C
  | i + 1 => (el i).cns (Cix el C i)
theorem Cix_shift {el : Nat → El} {C : Option Heap} {x : El} : ∀ i, Cix (fun k => match k with | 0 => x | k + 1 => el k) C (i + 1) = Cix el (x.cns C) i
  | 0 => rfl
  | i + 1 => by
    have := Cix_shift (el := el) (C := C) (x := x) i
    show (el i).cns (Cix _ C (i + 1)) = (el i).cns (Cix el (x.cns C) i)
    rw [this]
theorem QL.get {ops : Array Oper} : ∀ {l : List Oper} {e e' : Env} {S S' : Soft} {C C' : Option Heap}, QL P r w0 B n ds L ops l e S C e' S' C' →
    ∃ (dst : Nat → Nat) (el : Nat → El), (∀ i o, l[i]? = some o → o.dst = some (dst i) ∧ Nat.blt (dst i) n = true ∧ offS (Si dst el S i) (dst i) = true ∧ StepQ P r w0 B n ds L ops o (Ei dst el e i) (Si dst el S i) (Cix el C i) (dst i) (el i)) ∧ e' = Ei dst el e l.length ∧ S' = Si dst el S l.length ∧ C' = Cix el C l.length
  | [], e, e', S, S', C, C', h => ⟨fun _ => 0, fun _ => .det undef, fun i o ho => by simp at ho, h.1.symm, h.2.1.symm, h.2.2.symm⟩
  | o :: l, e, e', S, S', C, C', h => by
    obtain ⟨d, x, h1, h2, h3, h4, hr⟩ := h
    obtain ⟨dst, el, h5, h6, h7, h8⟩ := QL.get hr
    refine ⟨fun k => match k with | 0 => d | k + 1 => dst k, fun k => match k with | 0 => x | k + 1 => el k, ?_, ?_, ?_, ?_⟩
    · intro i o' ho'
      cases i with
      | zero => simp at ho'; subst ho'; exact ⟨h1, h2, h3, h4⟩
      | succ i =>
        simp at ho'
        have := h5 i o' ho'
        rw [Ei_shift, Si_shift, Cix_shift]
        exact this
    · rw [h6, List.length_cons, Ei_shift]
    · rw [h7, List.length_cons, Si_shift]
    · rw [h8, List.length_cons, Cix_shift]
/-- The slot's content where the operations of D have been carried out. -/
def view (dst : Nat → Nat) (el : Nat → El) (e : Env) (D : Nat → Bool) (s : Nat) : Nat → Option Value
  | 0 => X.get e s
  | i + 1 => match el i with
    | .det v => if D i = true ∧ dst i = s then some v else view dst el e D s i
    | .soft _ _ => view dst el e D s i
theorem get_Ei {dst : Nat → Nat} {el : Nat → El} {e : Env} {s : Nat} : ∀ i, X.get (Ei dst el e i) s = view dst el e (fun _ => true) s i
  | 0 => rfl
  | i + 1 => by
    simp only [Ei, view]
    cases hel : el i with
    | soft mu Φ => simp only [El.env]; exact get_Ei i
    | det v =>
      simp only [El.env, X.get]
      cases hb : Nat.beq s (dst i) with
      | true => have := Nat.eq_of_beq_eq_true hb; simp [this]
      | false =>
        have : ¬ dst i = s := fun h => Nat.ne_of_beq_eq_false hb h.symm
        simp [this, get_Ei i]
theorem view_agree {dst : Nat → Nat} {el : Nat → El} {e : Env} {s : Nat} {D D' : Nat → Bool} : ∀ m, (∀ i, i < m → dst i = s → D i = D' i) → view dst el e D s m = view dst el e D' s m
  | 0, _ => rfl
  | m + 1, h => by
    simp only [view]
    rw [view_agree m (fun i hi => h i (by omega))]
    by_cases hs : dst m = s
    · rw [h m (by omega) hs]
    · simp [hs]
theorem view_cut {dst : Nat → Nat} {el : Nat → El} {e : Env} {s j : Nat} : ∀ m, j ≤ m → view dst el e (fun i => decide (i < j)) s m = view dst el e (fun _ => true) s j
  | 0, h => by obtain rfl : j = 0 := (by omega); rfl
  | m + 1, h => by
    by_cases hj : j = m + 1
    · subst hj; exact view_agree _ (fun i hi _ => by simpa using hi)
    · simp only [view]
      have h1 : ¬ m < j := by omega
      have h2 := view_cut (dst := dst) (el := el) (e := e) (s := s) (j := j) m (by omega)
      simp only [h1, decide_false, Bool.false_eq_true, false_and, if_false]
      cases el m <;> exact h2
theorem view_put {dst : Nat → Nat} {el : Nat → El} {e : Env} {s j : Nat} {v : Value} {D' : Nat → Bool} (hj : D' j = true) (hel : el j = .det v) (hs : dst j = s) : ∀ m, j < m → (∀ i, j < i → i < m → dst i = s → D' i = false) →
    view dst el e D' s m = some v
  | 0, h, _ => by omega
  | m + 1, h, hn => by
    simp only [view]
    by_cases hm : j = m
    · subst hm; simp [hel, hj, hs]
    · have h1 := view_put (e := e) hj hel hs m (by omega) (fun i h1 h2 => hn i h1 (by omega))
      rw [h1]
      cases hm' : el m with
      | soft _ _ => rfl
      | det u =>
        by_cases h2 : dst m = s
        · simp [hn m (by omega) (by omega) h2]
        · simp [h2]
/-- a slot that nothing but memory fills -/
theorem view_none {dst : Nat → Nat} {el : Nat → El} {e : Env} {s : Nat} {D : Nat → Bool} (he : X.get e s = none) : ∀ m, (∀ i v, i < m → el i = .det v → dst i ≠ s) → view dst el e D s m = none
  | 0, _ => he
  | m + 1, h => by
    have ih := view_none (D := D) he m (fun i v hi => h i v (by omega))
    simp only [view]
    cases hm : el m with
    | soft _ _ => exact ih
    | det v => simp [h m v (by omega) hm, ih]
/-- what has been made -/
def HH (el : Nat → El) (H : Nat → Heap) (D : Nat → Bool) : Nat → Heap
  | 0 => []
  | i + 1 => match el i with
    | .det _ => HH el H D i
    | .soft _ _ => if D i = true then H i ++ HH el H D i else HH el H D i
theorem HH_agree {el : Nat → El} {H H' : Nat → Heap} {D D' : Nat → Bool} : ∀ m, (∀ i, i < m → D i = D' i ∧ H i = H' i) → HH el H D m = HH el H' D' m
  | 0, _ => rfl
  | m + 1, h => by
    simp only [HH]
    rw [HH_agree m (fun i hi => h i (by omega)), (h m (by omega)).1, (h m (by omega)).2]
theorem HH_det {el : Nat → El} {H : Nat → Heap} {D D' : Nat → Bool} {j : Nat} {v : Value} (hj : el j = .det v) : ∀ m, (∀ i, i ≠ j → D' i = D i) → HH el H D' m = HH el H D m
  | 0, _ => rfl
  | m + 1, h => by
    simp only [HH]
    rw [HH_det hj m h]
    by_cases e : m = j
    · subst e; rw [hj]
    · rw [h m e]
theorem HH_soft {el : Nat → El} {H H' : Nat → Heap} {D D' : Nat → Bool} {j : Nat} {mu : Bool} {Φ : Value → Heap → Prop} (hj : el j = .soft mu Φ) (h0 : D j = false) (h1 : D' j = true) (hD : ∀ i, i ≠ j → D' i = D i ∧ H' i = H i) :
    ∀ m, j < m → List.Perm (HH el H' D' m) (H' j ++ HH el H D m)
  | 0, h => by omega
  | m + 1, h => by
    simp only [HH]
    by_cases e : m = j
    · subst e
      rw [hj]
      simp only [h0, h1, if_true, Bool.false_eq_true, if_false]
      rw [HH_agree m (fun i hi => hD i (by omega))]
    · have ih := HH_soft hj h0 h1 hD m (by omega)
      cases hm : el m with
      | det v => exact ih
      | soft mu' Ψ =>
        simp only [(hD m e).1, (hD m e).2]
        by_cases hd : D m = true
        · rw [if_pos hd, if_pos hd]
          refine (List.Perm.append_left (H m) ih).trans ?_
          rw [← List.append_assoc, ← List.append_assoc]
          exact List.Perm.append_right _ List.perm_append_comm
        · rw [if_neg hd, if_neg hd]; exact ih
theorem HH_mem {el : Nat → El} {H : Nat → Heap} {D : Nat → Bool} {j : Nat} {mu : Bool} {Φ : Value → Heap → Prop} (hj : el j = .soft mu Φ) (h1 : D j = true) : ∀ m, j < m → List.Sublist (H j) (HH el H D m)
  | 0, h => by omega
  | m + 1, h => by
    simp only [HH]
    by_cases e : m = j
    · subst e
      rw [hj]
      simp only [h1, if_true]
      exact List.sublist_append_left _ _
    · have ih := HH_mem (H := H) hj h1 m (by omega)
      cases el m with
      | det v => exact ih
      | soft mu' Ψ =>
        by_cases hd : D m = true
        · simp only [if_pos hd]; exact ih.trans (List.sublist_append_right _ _)
        · simp only [if_neg hd]; exact ih

theorem ids_perm {L M : Heap} (h : List.Perm L M) : List.Perm (ids L) (ids M) := by
  induction h with
  | nil => exact .refl _
  | cons x _ ih => exact ih.append_left _
  | swap x y l =>
    simp only [ids]
    rw [← List.append_assoc, ← List.append_assoc]
    exact List.perm_append_comm.append_right _
  | trans _ _ h1 h2 => exact h1.trans h2
theorem ids_sub {L M : Heap} (h : List.Sublist L M) : List.Sublist (ids L) (ids M) := by
  induction h with
  | slnil => exact .refl _
  | cons x _ ih => exact ih.trans (List.sublist_append_right _ _)
  | cons_cons x _ ih => exact (List.Sublist.refl _).append ih
theorem Sit.perm {M : Heap} {a : Act} {w : World} (h : Sit w0 B n e ds L a w) (hp : List.Perm L M) : Sit w0 B n e ds M a w :=
  ⟨h.sz, h.df, h.env, ⟨fun x hx => h.own.ok x (hp.mem_iff.2 hx), (ids_perm hp).nodup_iff.1 h.own.nd⟩, h.kept, fun b hb => h.wr b ((ids_perm hp).mem_iff.2 hb)⟩
theorem Sit.subl {M : Heap} {a : Act} {w : World} (h : Sit w0 B n e ds L a w) (hp : List.Sublist M L) : Sit w0 B n e ds M a w :=
  ⟨h.sz, h.df, h.env, ⟨fun x hx => h.own.ok x (hp.subset hx), h.own.nd.sublist (ids_sub hp)⟩, h.kept, fun b hb => h.wr b ((ids_sub hp).subset hb)⟩
theorem Sit.setEnv {e' : Env} {a : Act} {w : World} (h : Sit w0 B n e ds L a w) (he : ∀ i v, get e' i = some v → a.tmps[i]? = some v) : Sit w0 B n e' ds L a w :=
  ⟨h.sz, h.df, he, h.own, h.kept, h.wr⟩
/-- the end of a phase -/
theorem Close.out {dst : Nat → Nat} {el : Nat → El} {V : Nat → Value} {H : Nat → Heap} {G : Env → Heap → Prop} {a : Act} {w : World} : ∀ (m : Nat) {e : Env} {L : Heap}, Close (Si dst el [] m) e L G →
    (∀ i mu Φ, i < m → el i = .soft mu Φ → Φ (V i) (H i) ∧ a.tmps[dst i]? = some (V i)) → Sit w0 B n e ds (HH el H (fun _ => true) m ++ L) a w → ∃ e' L', G e' L' ∧ Sit w0 B n e' ds L' a w
  | 0, e, L, hc, _, hs => ⟨e, L, hc, hs⟩
  | m + 1, e, L, hc, hv, hs => by
    simp only [Si] at hc
    simp only [HH] at hs
    cases hm : el m with
    | det v =>
      rw [hm] at hc hs
      exact Close.out m hc (fun i mu Φ hi => hv i mu Φ (by omega)) hs
    | soft mu Φ =>
      rw [hm] at hc hs
      obtain ⟨h1, h2⟩ := hv m mu Φ (by omega) hm
      refine Close.out m (hc (V m) (H m) h1) (fun i mu Φ hi => hv i mu Φ (by omega)) ?_
      simp only [if_true] at hs
      have hp : List.Perm (H m ++ HH el H (fun _ => true) m ++ L) (HH el H (fun _ => true) m ++ (H m ++ L)) := by
        rw [← List.append_assoc]; exact List.perm_append_comm.append_right _
      refine (hs.perm hp).setEnv fun i v hi => ?_
      rcases get_cons.1 hi with ⟨rfl, rfl⟩ | ⟨_, hi⟩
      · exact h2
      · exact hs.env i v hi

theorem restr_none {E : Env} {ts : List Nat} {i : Nat} (hit : ¬ i ∈ ts) : X.get (restr E ts) i = none := by
  induction E with
  | nil => rfl
  | cons p E ihE =>
    obtain ⟨q, u⟩ := p
    by_cases hq : q ∈ ts
    · have h3 : ts.contains q = true := by simpa using hq
      have h2 : Nat.beq i q = false := by
        cases hb : Nat.beq i q with
        | false => rfl
        | true => exact absurd (Nat.eq_of_beq_eq_true hb ▸ hq) hit
      simp only [restr, List.filter_cons, h3, if_true, X.get, h2]
      exact ihE
    · have h3 : ts.contains q = false := by simpa using hq
      simp only [restr, List.filter_cons, h3]
      exact ihE
theorem mem_Si {dst : Nat → Nat} {el : Nat → El} {s : Nat} {Φ : Value → Heap → Prop} : ∀ {j : Nat}, (s, Φ) ∈ Si dst el [] j → ∃ i mu, i < j ∧ el i = .soft mu Φ ∧ dst i = s
  | 0, h => by simp [Si] at h
  | j + 1, h => by
    simp only [Si] at h
    cases hj : el j with
    | det v => rw [hj] at h; obtain ⟨i, mu, h1, h2⟩ := mem_Si h; exact ⟨i, mu, by omega, h2⟩
    | soft mu' Ψ =>
      rw [hj] at h
      rcases List.mem_cons.1 h with h | h
      · cases h; exact ⟨j, _, by omega, hj, rfl⟩
      · obtain ⟨i, mu, h1, h2⟩ := mem_Si h; exact ⟨i, mu, by omega, h2⟩
theorem Si_mem {dst : Nat → Nat} {el : Nat → El} {i : Nat} {mu : Bool} {Φ : Value → Heap → Prop} (hi : el i = .soft mu Φ) : ∀ {j : Nat}, i < j → (dst i, Φ) ∈ Si dst el [] j
  | 0, h => by omega
  | j + 1, h => by
    simp only [Si]
    by_cases e : i = j
    · subst e; rw [hi]; exact .head _
    · have := Si_mem (dst := dst) hi (show i < j by omega)
      cases el j with
      | det v => exact this
      | soft mu' Ψ => exact .tail _ this
theorem offS_ne {S : Soft} {d s : Nat} {Φ : Value → Heap → Prop} (h : offS S d = true) (hm : (s, Φ) ∈ S) : s ≠ d := by
  intro e
  subst e
  have := List.all_eq_true.1 h _ hm
  simp at this
theorem get_Ei_ne {dst : Nat → Nat} {el : Nat → El} {e : Env} {s : Nat} : ∀ {j : Nat}, X.get (Ei dst el e j) s = none → X.get e s = none ∧ ∀ i v, i < j → el i = .det v → dst i ≠ s
  | 0, h => ⟨h, fun i v hi => by omega⟩
  | j + 1, h => by
    simp only [Ei] at h
    cases hj : el j with
    | soft mu Φ =>
      rw [hj] at h
      obtain ⟨h1, h2⟩ := get_Ei_ne h
      refine ⟨h1, fun i v hi hv => ?_⟩
      by_cases e : i = j
      · subst e; rw [hj] at hv; cases hv
      · exact h2 i v (by omega) hv
    | det u =>
      rw [hj] at h
      simp only [El.env, X.get] at h
      cases hb : Nat.beq s (dst j) with
      | true => rw [hb] at h; cases h
      | false =>
        rw [hb] at h
        obtain ⟨h1, h2⟩ := get_Ei_ne h
        refine ⟨h1, fun i v hi hv => ?_⟩
        by_cases e : i = j
        · subst e; exact fun h => Nat.ne_of_beq_eq_false hb h.symm
        · exact h2 i v (by omega) hv
theorem ready_lt {ops : Array Oper} {D : Array Bool} (hD : D.size = ops.size) {j : Nat} (h : j ∈ Region.ready .any ops D) : j < ops.size ∧ inD D j = false := by
  obtain ⟨o, ho, h1, _⟩ := (mem_ready hD).1 h
  exact ⟨by simpa using (List.getElem?_eq_some_iff.1 ho).1, h1⟩

/-- what stood aside has been taken -/
def mutD (el : Nat → El) (D : Nat → Bool) : Nat → Bool
  | 0 => false
  | i + 1 => (match el i with
    | .soft true _ => D i
    | _ => false) || mutD el D i
theorem mutD_agree {el : Nat → El} {D D' : Nat → Bool} : ∀ m, (∀ i, i < m → D i = D' i) → mutD el D m = mutD el D' m
  | 0, _ => rfl
  | m + 1, h => by simp only [mutD]; rw [mutD_agree m (fun i hi => h i (by omega)), h m (by omega)]
theorem mutD_put {el : Nat → El} {D D' : Nat → Bool} {j : Nat} (hj : ∀ Φ, el j ≠ .soft true Φ) (h : ∀ i, i ≠ j → D' i = D i) : ∀ m, mutD el D' m = mutD el D m
  | 0 => rfl
  | m + 1 => by
    simp only [mutD]
    rw [mutD_put hj h m]
    by_cases e : m = j
    · subst e
      cases hm : el m with
      | det v => rfl
      | soft mu Φ => cases mu with
        | false => rfl
        | true => exact absurd hm (hj Φ)
    · rw [h m e]
theorem mutD_on {el : Nat → El} {D : Nat → Bool} {j : Nat} {Φ : Value → Heap → Prop} (hj : el j = .soft true Φ) (h1 : D j = true) : ∀ m, j < m → mutD el D m = true
  | 0, h => by omega
  | m + 1, h => by
    simp only [mutD]
    by_cases e : m = j
    · subst e; rw [hj]; simp [h1]
    · rw [mutD_on hj h1 m (by omega)]; simp
theorem mutD_off {el : Nat → El} {D : Nat → Bool} : ∀ m, (∀ i Φ, i < m → el i = .soft true Φ → D i = false) → mutD el D m = false
  | 0, _ => rfl
  | m + 1, h => by
    simp only [mutD]
    rw [mutD_off m (fun i Φ hi => h i Φ (by omega))]
    cases hm : el m with
    | det v => rfl
    | soft mu Φ => cases mu with
      | false => rfl
      | true => simp [h m Φ (by omega) hm]
theorem Cix_cases {el : Nat → El} {C : Option Heap} : ∀ m, (mutD el (fun _ => true) m = true ∧ Cix el C m = none) ∨ (mutD el (fun _ => true) m = false ∧ Cix el C m = C)
  | 0 => .inr ⟨rfl, rfl⟩
  | m + 1 => by
    have ih := Cix_cases (el := el) (C := C) m
    simp only [Cix, mutD]
    cases hm : el m with
    | det v => simpa [El.cns] using ih
    | soft mu Φ => cases mu with
      | false => simpa [El.cns] using ih
      | true => exact .inl ⟨rfl, rfl⟩
theorem Cix_end {el : Nat → El} {C : Option Heap} (m : Nat) : (Cix el C m).getD [] = if mutD el (fun _ => true) m = true then [] else C.getD [] := by
  rcases Cix_cases (el := el) (C := C) m with ⟨h1, h2⟩ | ⟨h1, h2⟩
  · rw [h1, h2]; rfl
  · rw [h1, h2]; rfl
theorem Cix_some {el : Nat → El} {C : Option Heap} {C0 : Heap} : ∀ {j : Nat}, Cix el C j = some C0 → C = some C0 ∧ ∀ i Φ, i < j → el i ≠ .soft true Φ
  | 0, h => ⟨h, fun i Φ hi => by omega⟩
  | j + 1, h => by
    simp only [Cix] at h
    cases hj : el j with
    | det v =>
      rw [hj] at h
      obtain ⟨h1, h2⟩ := Cix_some (j := j) h
      refine ⟨h1, fun i Φ hi => ?_⟩
      by_cases e : i = j
      · subst e; rw [hj]; simp
      · exact h2 i Φ (by omega)
    | soft mu Ψ => cases mu with
      | true => rw [hj] at h; cases h
      | false =>
        rw [hj] at h
        obtain ⟨h1, h2⟩ := Cix_some (j := j) h
        refine ⟨h1, fun i Φ hi => ?_⟩
        by_cases e : i = j
        · subst e; rw [hj]; simp
        · exact h2 i Φ (by omega)

/-- A phase, in whatever order. -/
theorem XD.run {ops : Array Oper} {l : List Oper} (h : XD P r w0 B n ops l Q e ds L [] C) : XR P r w0 B n ops l Q e ds (C.getD [] ++ L) := by
  refine ⟨fun ⟨pre, hpre⟩ _ a w hs => ?_⟩
  obtain ⟨l1, l2, e', S', C', hl, hq, hedge, hpair, hcut, hx⟩ := h.parts
  obtain ⟨dst, el, hst, he', hS', hC'⟩ := hq.get
  obtain ⟨m, hmm⟩ : ∃ m, l1.length = m := ⟨_, rfl⟩
  obtain ⟨k, hk⟩ : ∃ k, pre.length = k := ⟨_, rfl⟩
  have hlen : ops.toList.length = ops.size := by simp
  have hN : k + m + l2.length = ops.size := by rw [← hlen, ← hpre, hl, ← hmm, ← hk]; simp; omega
  have e1 : ops.size - l.length = k := by rw [hl]; simp; omega
  have e2 : ops.size - l2.length = k + m := by omega
  rw [e2] at hpair hcut
  rw [e1]
  have hat : ∀ i, i < m → ∀ o, ops.toList[k + i]? = some o → l1[i]? = some o := fun i hi o ho => by
    rw [← hpre, hl, ← hk, List.getElem?_append_right (by omega), Nat.add_sub_cancel_left, List.getElem?_append_left (by omega)] at ho
    exact ho
  have hback := edgesOk_back hedge
  have hget : ∀ {i : Nat} (hi : i < ops.size), ops.toList[i]? = some (ops.toList[i]'(hlen.symm ▸ hi)) := fun hi => List.getElem?_eq_getElem _
  -- a slot that memory fills is filled by that alone
  have hsoft : ∀ i mu Φ, i < m → el i = .soft mu Φ → X.get e (dst i) = none ∧ ∀ i', i' < m → i' ≠ i → dst i' ≠ dst i := by
    intro i mu Φ hi hel
    have hio := hget (show k + i < ops.size by omega)
    obtain ⟨_, _, ho, hs⟩ := hst i _ (hat i hi _ hio)
    rw [hel] at hs
    have hs21 : X.get (Ei dst el e i) (dst i) = none := by cases mu <;> exact hs.2.1
    obtain ⟨h1, h2⟩ := get_Ei_ne hs21
    refine ⟨h1, fun i' hi' hne => ?_⟩
    rcases Nat.lt_or_gt_of_ne hne with hlt | hgt
    · cases hel' : el i' with
      | det v => exact h2 i' v hlt hel'
      | soft mu' Ψ => exact offS_ne ho (Si_mem hel' hlt)
    · have hio' := hget (show k + i' < ops.size by omega)
      obtain ⟨_, _, ho', _⟩ := hst i' _ (hat i' hi' _ hio')
      exact (offS_ne ho' (Si_mem hel hgt)).symm
  let Low : Array Bool → Act → World → Prop := fun D a w =>
    ∃ (V : Nat → Value) (H : Nat → Heap), Sit w0 B n [] ds (HH el H (fun i => inD D (k + i)) m ++ ((if mutD el (fun i => inD D (k + i)) m = true then [] else C.getD []) ++ L)) a w ∧
      (∀ s v, view dst el e (fun i => inD D (k + i)) s m = some v → a.tmps[s]? = some v) ∧
      ∀ i mu Φ, i < m → el i = .soft mu Φ → inD D (k + i) = true → Φ (V i) (H i) ∧ a.tmps[dst i]? = some (V i)
  have main : ∀ fuel D a w, cnt (inD D) ops.size = fuel → D.size = ops.size → (∀ j o, ops.toList[j]? = some o → inD D j = true → ∀ x ∈ o.after.toList, Region.binds .any x = true → inD D x.on = true) →
      (∀ i, i < k → inD D i = true) → (∀ i, k + m ≤ i → inD D i = false) → Low D a w → wpAnyIn (FW r) 0 P .any ops Q fuel D a w := by
    intro fuel
    induction fuel with
    | zero =>
      intro D a w hc hsz hcl hlo hhi hlow
      have hall := cnt_zero hc
      have hfull : k + m = ops.size := by
        rcases Nat.lt_or_ge (k + m) ops.size with h1 | h1
        · have := hhi (k + m) (Nat.le_refl _); rw [hall _ h1] at this; cases this
        · omega
      obtain ⟨V, H, h1, h2, h3⟩ := hlow
      have hend : RS P r ops Q (k + m) a w := by
        have hD : HH el H (fun i => inD D (k + i)) m = HH el H (fun _ => true) m := HH_agree m fun i hi => ⟨hall _ (by omega), rfl⟩
        have hDm : mutD el (fun i => inD D (k + i)) m = mutD el (fun _ => true) m := mutD_agree m fun i hi => hall _ (by omega)
        rw [hD, hDm, ← Cix_end] at h1
        have henv : ∀ s v, X.get (Ei dst el e m) s = some v → a.tmps[s]? = some v := fun s v hv => h2 s v (by
          rw [get_Ei] at hv; rw [← hv]; exact view_agree m fun i hi _ => hall _ (by omega))
        rw [he', hS', hC', hmm] at hx
        rcases hx with hx | hx
        · obtain ⟨e3, L3, h5, h6⟩ := Close.out m hx (fun i mu Φ hi hel => h3 i mu Φ hi hel (hall _ (by omega))) (h1.setEnv henv)
          have := h5.run ⟨pre ++ l1, by rw [← hpre, hl]; simp⟩ hedge a w h6
          rwa [e2] at this
        · have := hx.run ⟨pre ++ l1, by rw [← hpre, hl]; simp⟩ hedge a w ((h1.setEnv henv).subl (List.sublist_append_right _ _))
          rwa [e2] at this
      have := hend D hsz (fun i hi => by rw [hall i hi]; simp; omega)
      rwa [hc] at this
    | succ fuel ih =>
      intro D a w hc hsz hcl hlo hhi hlow
      by_cases hdone : ∀ i, i < m → inD D (k + i) = true
      · -- the phase is done
        obtain ⟨V, H, h1, h2, h3⟩ := hlow
        have hend : RS P r ops Q (k + m) a w := by
          have hD : HH el H (fun i => inD D (k + i)) m = HH el H (fun _ => true) m := HH_agree m fun i hi => ⟨hdone _ (by omega), rfl⟩
          have hDm : mutD el (fun i => inD D (k + i)) m = mutD el (fun _ => true) m := mutD_agree m fun i hi => hdone _ (by omega)
          rw [hD, hDm, ← Cix_end] at h1
          have henv : ∀ s v, X.get (Ei dst el e m) s = some v → a.tmps[s]? = some v := fun s v hv => h2 s v (by
            rw [get_Ei] at hv; rw [← hv]; exact view_agree m fun i hi _ => hdone _ (by omega))
          rw [he', hS', hC', hmm] at hx
          rcases hx with hx | hx
          · obtain ⟨e3, L3, h5, h6⟩ := Close.out m hx (fun i mu Φ hi hel => h3 i mu Φ hi hel (hdone _ (by omega))) (h1.setEnv henv)
            have := h5.run ⟨pre ++ l1, by rw [← hpre, hl]; simp⟩ hedge a w h6
            rwa [e2] at this
          · have := hx.run ⟨pre ++ l1, by rw [← hpre, hl]; simp⟩ hedge a w ((h1.setEnv henv).subl (List.sublist_append_right _ _))
            rwa [e2] at this
        have := hend D hsz (fun i hi => by
          by_cases h4 : i < k
          · rw [hlo i h4]; simp; omega
          · by_cases h5 : i < k + m
            · have := hdone (i - k) (by omega)
              rw [show k + (i - k) = i by omega] at this
              rw [this]; simp; omega
            · rw [hhi i (by omega)]; simp; omega)
        rwa [hc] at this
      constructor
      · -- something is always ready
        intro hr
        exfalso
        rcases first_false (f := inD D) ops.size with h | ⟨j, h1, h2, h3⟩
        · rw [cnt_all h] at hc; omega
        · have : j ∈ Region.ready .any ops D := (mem_ready hsz).2 ⟨_, hget h1, h2, fun x hx hb => h3 _ (hback j _ (hget h1) x hx hb)⟩
          rw [hr] at this; cases this
      · intro jj hj
        obtain ⟨hjs, hjD⟩ := ready_lt hsz hj
        obtain ⟨o, ho, _, hedges⟩ := (mem_ready hsz).1 hj
        have hbef := ready_befs hedge hsz hcl hj
        have hclosed := befs_closed hcl hback
        -- it belongs to the phase
        have hjk : k ≤ jj := by
          rcases Nat.lt_or_ge jj k with h1 | h1
          · rw [hlo jj h1] at hjD; cases hjD
          · exact h1
        have hjm : jj < k + m := by
          rcases Nat.lt_or_ge jj (k + m) with h1 | h1
          · exact h1
          · exfalso
            refine hdone fun i hi => hbef _ (cutOk_get hcut (by omega) (by omega) h1)
        obtain ⟨j, rfl⟩ : ∃ j, jj = k + j := ⟨jj - k, by omega⟩
        have hjm' : j < m := by omega
        have ho' : ops[k + j]? = some o := by simpa using ho
        have hsetD : ∀ q, inD (D.setIfInBounds (k + j) true) q = if q = k + j then true else inD D q := fun q => inD_set (by omega)
        have hcnt : cnt (inD (D.setIfInBounds (k + j) true)) ops.size = fuel := by
          have := cnt_set (f := inD D) ops.size hjs hjD (g := inD (D.setIfInBounds (k + j) true)) (by rw [hsetD]; simp) (fun q hq => by rw [hsetD]; simp [hq])
          omega
        have hcl' : ∀ i o', ops.toList[i]? = some o' → inD (D.setIfInBounds (k + j) true) i = true → ∀ x ∈ o'.after.toList, Region.binds .any x = true → inD (D.setIfInBounds (k + j) true) x.on = true := by
          intro i o' hi hD x hx hb
          rw [hsetD] at hD ⊢
          by_cases hij : i = k + j
          · subst hij
            have : o' = o := by rw [ho] at hi; exact (Option.some.inj hi).symm
            subst this
            rw [hedges x hx hb]; simp
          · rw [if_neg hij] at hD; rw [hcl i o' hi hD x hx hb]; simp
        have hnext : ∀ a w, Low (D.setIfInBounds (k + j) true) a w → wpAnyIn (FW r) 0 P .any ops Q fuel (D.setIfInBounds (k + j) true) a w := fun a w h =>
          ih _ a w hcnt (by simp [hsz]) hcl' (fun i hi => by rw [hsetD, if_neg (by omega), hlo i hi]) (fun i hi => by rw [hsetD, if_neg (by omega), hhi i hi]) h
        obtain ⟨hod, hdn, hoff, hsq⟩ := hst j o (hat j hjm' o ho)
        obtain ⟨V, H, hsit, hview, hmade⟩ := hlow
        have hord : ∀ i, i < m → i ≠ j → ∀ x, ops.toList[k + i]? = some x → clash ops x o = true → inD D (k + i) = decide (i < j) := by
          intro i hi hne x hx hcl2
          rcases Nat.lt_or_gt_of_ne hne with hlt | hgt
          · rcases pairOk_get hpair (i := k + i) (j := k + j) (by rw [Nat.zero_add]; exact hx) (by rw [Nat.zero_add]; exact ho) (by omega) (by omega) with h1 | h1
            · rw [Nat.zero_add, Nat.zero_add] at h1; rw [hbef _ h1]; simp [hlt]
            · rw [h1] at hcl2; cases hcl2
          · rcases pairOk_get hpair (i := k + j) (j := k + i) (by rw [Nat.zero_add]; exact ho) (by rw [Nat.zero_add]; exact hx) (by omega) (by omega) with h1 | h1
            · rw [Nat.zero_add, Nat.zero_add] at h1
              cases hDi : inD D (k + i) with
              | false => simp; omega
              | true =>
                have := hclosed (k + i) (by have := (List.getElem?_eq_some_iff.1 hx).1; omega) hDi _ h1
                rw [hjD] at this; cases this
            · rw [clash_symm, h1] at hcl2; cases hcl2
        have hclash : ∀ i, i < m → ∀ s, dst i = s → (s ∈ lookL ops o ∨ s = dst j) → ∃ x, ops.toList[k + i]? = some x ∧ clash ops x o = true := by
          intro i hi s hds hsl
          have hil := hget (show k + i < ops.size by omega)
          obtain ⟨h1, _⟩ := hst i _ (hat i hi _ hil)
          refine ⟨_, hil, ?_⟩
          rcases hsl with hsl | hsl
          · exact clash_of_look h1 hsl hds
          · exact clash_of_dst (h1.trans (by rw [hds, hsl])) hod
        -- the slots at which it looks hold what they hold in the order of the text
        have hlook : ∀ s ∈ lookL ops o, ∀ v, X.get (Ei dst el e j) s = some v → a.tmps[s]? = some v := by
          intro s hsl v hv
          apply hview
          rw [← hv, get_Ei, ← view_cut m (Nat.le_of_lt hjm')]
          refine view_agree m (fun i hi hds => ?_)
          by_cases hij : i = j
          · subst hij; rw [hjD]; simp
          · obtain ⟨x, hx, hcx⟩ := hclash i hi s hds (.inl hsl)
            exact hord i hi hij x hx hcx
        have hDj : ∀ i, i ≠ j → inD (D.setIfInBounds (k + j) true) (k + i) = inD D (k + i) := fun i hi => by rw [hsetD, if_neg (by omega)]
        have hDjj : inD (D.setIfInBounds (k + j) true) (k + j) = true := by rw [hsetD]; simp
        have hlt : dst j < a.tmps.size := by rw [hsit.sz]; simpa [Nat.blt_eq] using hdn
        -- behind a step that yields v
        have hnewD : ∀ v, el j = .det v → ∀ w', Kept [] w w' → wpAnyIn (FW r) 0 P .any ops Q fuel (D.setIfInBounds (k + j) true) (a.put o.dst v) w' := by
          intro v hel w' hkp
          rw [hod]
          refine hnext _ _ ⟨V, H, ?_, ?_, ?_⟩
          · rw [HH_det hel m hDj, mutD_put (by rw [hel]; simp) hDj m]
            have h1 := (hsit.step hkp (fun _ h => by cases h) (hsit.own.of_kept hkp (fun _ _ h => by cases h)) (fun b hb => .inl hb)).put (v := v) hdn
            exact h1.setEnv fun i v h => by simp [X.get] at h
          · intro s u hu
            rw [put_get? hlt]
            by_cases hsd : s = dst j
            · rw [if_pos hsd]
              rw [view_put (D' := fun i => inD (D.setIfInBounds (k + j) true) (k + i)) hDjj hel hsd.symm m hjm' (fun i hi1 hi2 hds => ?_)] at hu
              · exact hu
              · rw [hDj i (by omega)]
                obtain ⟨x, hx, hcx⟩ := hclash i hi2 s hds (.inr hsd)
                rw [hord i hi2 (by omega) x hx hcx]
                simp; omega
            · rw [if_neg hsd]
              refine hview s u ?_
              rw [← hu]
              exact view_agree m (fun i hi hds => (hDj i (fun e => hsd (by rw [← hds, e]))).symm)
          · intro i mu Φ hi heli hin
            have hij : i ≠ j := fun e => by rw [e, hel] at heli; cases heli
            rw [hDj i hij] at hin
            obtain ⟨h1, h2⟩ := hmade i mu Φ hi heli hin
            refine ⟨h1, ?_⟩
            rw [put_get? hlt, if_neg ((hsoft i mu Φ hi heli).2 j hjm' (fun e => hij e.symm)).symm]
            exact h2
        have hrest : ∀ {M : Heap}, List.Sublist M (HH el H (fun i => inD D (k + i)) m ++ ((if mutD el (fun i => inD D (k + i)) m = true then [] else C.getD []) ++ L)) → ∀ E : Env, (∀ s ∈ tmpsOf o.op, ∀ v, X.get E s = some v → a.tmps[s]? = some v) → Sit w0 B n (restr E (tmpsOf o.op)) ds M a w := by
          intro M hM E hE
          refine (hsit.subl hM).setEnv fun i v hi => ?_
          by_cases hit : i ∈ tmpsOf o.op
          · rw [get_restr hit] at hi; exact hE i hit v hi
          · rw [restr_none hit] at hi; cases hi
        have hLsub : List.Sublist L (HH el H (fun i => inD D (k + i)) m ++ ((if mutD el (fun i => inD D (k + i)) m = true then [] else C.getD []) ++ L)) := (List.sublist_append_right _ _).trans (List.sublist_append_right _ _)
        have hwant : Asks ops o (Ei dst el e j) → Region.wanted o (yielded ops a.tmps) = true := by
          rintro (hg | ⟨jg, want, s, hg, hjj, hgs⟩)
          · simp [Region.wanted, hg]
          · have := hlook s (by simp [lookL, hg, hjj]) _ hgs
            simp [Region.wanted, hg, yielded, hjj, this]
        unfold wpOpIn
        simp only [ho']
        cases hel : el j with
        | det v =>
          rw [hel] at hsq
          rcases hsq with ⟨hg, hqq⟩ | ⟨⟨jg, want, s, u, hg, hjj, hgs, hno⟩, hv⟩ | ⟨hg, s, Φ, hsS, hst', hqq⟩
          · rw [if_pos (hwant hg)]
            exact hqq.at_ o.dst o.pos o.after o.guard a w (hrest hLsub _ fun s hs v hv => hlook s (by simp [lookL, hs]) v hv) _ _ (hnewD v hel)
          · have hw : Region.wanted o (yielded ops a.tmps) = false := by
              have := hlook s (by simp [lookL, hg, hjj]) _ hgs
              simp only [Region.wanted, hg, yielded, hjj, Option.bind_some, this]
              cases u <;> simp [noB] at hno ⊢
              rename_i b
              cases b <;> cases want <;> simp at hno ⊢
            rw [if_neg (by simp [hw])]
            refine ⟨fun _ _ => trivial, ?_⟩
            have := hnewD v hel w (.refl _ _)
            rwa [hv] at this
          · rw [if_pos (hwant hg)]
            obtain ⟨i, mui, hij, heli, hds⟩ := mem_Si hsS
            obtain ⟨x, hx, hcx⟩ := hclash i (by omega) s hds (.inl (by simp [lookL, hst']))
            have hin : inD D (k + i) = true := by rw [hord i (by omega) (by omega) x hx hcx]; simp [hij]
            obtain ⟨h1, h2⟩ := hmade i mui Φ (by omega) heli hin
            refine (hqq (V i) (H i) h1).at_ o.dst o.pos o.after o.guard a w (hrest ?_ _ fun s' hs' u hu => ?_) _ _ (hnewD v hel)
            · exact (HH_mem heli hin m (by omega)).append (List.sublist_append_right _ _)
            · rcases get_cons.1 hu with ⟨rfl, rfl⟩ | ⟨_, hu⟩
              · rw [← hds]; exact h2
              · exact hlook s' (by simp [lookL, hs']) u hu
        | soft mu Φ =>
          rw [hel] at hsq
          obtain ⟨hs1, hs2⟩ := hsoft j mu Φ hjm' hel
          -- behind the step: its entries beside the others
          have hnewS : ∀ (v : Value) (H' R : Heap) (w' : World), Φ v H' → (if mutD el (fun i => inD (D.setIfInBounds (k + j) true) (k + i)) m = true then [] else C.getD []) = R →
              Sit w0 B n [] ds (H' ++ (HH el H (fun i => inD D (k + i)) m ++ (R ++ L))) a w' → wpAnyIn (FW r) 0 P .any ops Q fuel (D.setIfInBounds (k + j) true) (a.put o.dst v) w' := by
            intro v H' R w' hφ hR h1
            rw [hod]
            have hperm := HH_soft (H := H) (H' := fun i => if i = j then H' else H i) (D := fun i => inD D (k + i)) (D' := fun i => inD (D.setIfInBounds (k + j) true) (k + i)) hel hjD hDjj
              (fun i hi => ⟨hDj i hi, by simp [hi]⟩) m hjm'
            refine hnext _ _ ⟨fun i => if i = j then v else V i, fun i => if i = j then H' else H i, ?_, ?_, ?_⟩
            · rw [hR]
              have h2 := h1.put (v := v) hdn
              refine (h2.setEnv fun i v h => by simp [X.get] at h).perm ?_
              rw [← List.append_assoc]
              refine List.Perm.append_right (R ++ L) (List.Perm.symm ?_)
              simpa using hperm
            · intro s u hu
              have hne : s ≠ dst j := by
                intro e2
                subst e2
                rw [view_none hs1 m fun i v hi heli => hs2 i hi (fun e3 => by rw [e3, hel] at heli; cases heli)] at hu
                cases hu
              rw [put_get? hlt, if_neg hne]
              refine hview s u ?_
              rw [← hu]
              exact view_agree m (fun i hi hds => (hDj i (fun e3 => hne (by rw [← hds, e3]))).symm)
            · intro i mu' Ψ hi heli hin
              by_cases hij : i = j
              · subst hij
                rw [hel] at heli
                cases heli
                simp only [if_true]
                exact ⟨hφ, by rw [put_get? hlt, if_pos rfl]⟩
              · rw [hDj i hij] at hin
                obtain ⟨h1, h2⟩ := hmade i mu' Ψ hi heli hin
                simp only [if_neg hij]
                exact ⟨h1, by rw [put_get? hlt, if_neg (hs2 i hi hij)]; exact h2⟩
          cases mu with
          | false =>
            obtain ⟨hg, hnone, hmk⟩ := hsq
            rw [if_pos (hwant hg)]
            refine hmk.at_ o.dst o.pos o.after o.guard a w (hrest hLsub _ fun s hs v hv => hlook s (by simp [lookL, hs]) v hv) _ _ fun v H' w' hφ hkp hown hfresh => ?_
            refine hnewS v H' _ w' hφ (by rw [mutD_put (by rw [hel]; simp) hDj m]) ?_
            refine hsit.step hkp (fun _ h => by cases h) (hown.append (hsit.own.of_kept hkp (fun _ _ h => by cases h)) fun b hb hm => ?_) (fun b hb => ?_)
            · have := hsit.own.live b hm
              have := hfresh b hb
              omega
            · rw [ids_append] at hb
              rcases List.mem_append.1 hb with hb | hb
              · exact .inr (hfresh b hb)
              · exact .inl hb
          | true =>
            obtain ⟨hg, hnone, C0, hCj, hmut⟩ := hsq
            obtain ⟨hC0, hnomut⟩ := Cix_some hCj
            have huniq : ∀ i Ψ, i < m → el i = .soft true Ψ → i = j := by
              intro i Ψ hi heli
              rcases Nat.lt_trichotomy i j with h | h | h
              · exact absurd heli (hnomut i Ψ h)
              · exact h
              · exfalso
                obtain ⟨_, _, _, hsi⟩ := hst i _ (hat i hi _ (hget (show k + i < ops.size by omega)))
                rw [heli] at hsi
                obtain ⟨_, _, C1, hC1, _⟩ := hsi
                exact (Cix_some hC1).2 j Φ h hel
            have hoff : mutD el (fun i => inD D (k + i)) m = false := mutD_off m fun i Ψ hi heli => by rw [huniq i Ψ hi heli]; exact hjD
            have hon : mutD el (fun i => inD (D.setIfInBounds (k + j) true) (k + i)) m = true := mutD_on hel hDjj m hjm'
            simp only [hoff, Bool.false_eq_true, if_false, hC0, Option.getD_some] at hsit hrest
            rw [if_pos (hwant hg)]
            have hfin : ∀ v H' w', Φ v H' → Kept (ids C0) w w' → Owns w' H' → (∀ b ∈ ids H', b ∈ ids C0 ∨ w.heap.size ≤ b) → wpAnyIn (FW r) 0 P .any ops Q fuel (D.setIfInBounds (k + j) true) (a.put o.dst v) w' := by
              intro v H' w' hφ hkp hown hfresh
              refine hnewS v H' [] w' hφ (by rw [hon]; rfl) ?_
              have hsp : Sit w0 B n [] ds (C0 ++ (HH el H (fun i => inD D (k + i)) m ++ L)) a w := hsit.perm (by
                rw [← List.append_assoc, ← List.append_assoc]; exact List.perm_append_comm.append_right _)
              have hK := hsp.own.right.of_kept hkp (fun b hb hc => hsp.own.apart b hc hb)
              refine hsp.step hkp (fun b hb => by rw [ids_append]; exact List.mem_append_left _ hb) (hown.append hK fun b hb hm => ?_) (fun b hb => ?_)
              · rcases hfresh b hb with h | h
                · exact hsp.own.apart b h hm
                · exact absurd (hsp.own.right.live b hm) (Nat.not_lt.2 h)
              · rw [ids_append] at hb
                rcases List.mem_append.1 hb with hb | hb
                · exact (hfresh b hb).imp (fun h => by rw [ids_append]; exact List.mem_append_left _ h) id
                · exact .inl (by rw [ids_append]; exact List.mem_append_right _ hb)
            rcases hmut with hmk | ⟨s, Ψ, hsS, hst', hmk⟩
            · refine hmk.at_ o.dst o.pos o.after o.guard a w (hrest (List.sublist_append_right _ _) _ fun s hs v hv => hlook s (by simp [lookL, hs]) v hv) _ _ hfin
            · obtain ⟨i, mui, hij, heli, hds⟩ := mem_Si hsS
              obtain ⟨x, hx, hcx⟩ := hclash i (by omega) s hds (.inl (by simp [lookL, hst']))
              have hin : inD D (k + i) = true := by rw [hord i (by omega) (by omega) x hx hcx]; simp [hij]
              obtain ⟨h1, h2⟩ := hmade i mui Ψ (by omega) heli hin
              have hsub := hrest (M := H i ++ (C0 ++ L)) ((HH_mem heli hin m (by omega)).append (.refl _)) ((s, V i) :: Ei dst el e j) fun s' hs' u hu => by
                rcases get_cons.1 hu with ⟨rfl, rfl⟩ | ⟨_, hu⟩
                · rw [← hds]; exact h2
                · exact hlook s' (by simp [lookL, hs']) u hu
              refine (hmk (V i) (H i) h1).at_ o.dst o.pos o.after o.guard a w (hsub.perm ?_) _ _ hfin
              rw [← List.append_assoc, ← List.append_assoc]; exact List.perm_append_comm.append_right _
  intro D hD hin
  refine main _ D a w rfl hD (closed_of hedge hin) (fun i hi => ?_) (fun i hi => ?_) ⟨fun _ => undef, fun _ => [], ?_, ?_, ?_⟩
  · rw [hin i (by omega)]; simp [hi]
  · by_cases h1 : i < ops.size
    · rw [hin i h1]; simp; omega
    · simp only [inD, Array.getD_eq_getD_getElem?]; rw [Array.getElem?_eq_none (by omega)]; rfl
  · have : HH el (fun _ => []) (fun i => inD D (k + i)) m = [] := by
      have key : ∀ q, HH el (fun _ => []) (fun i => inD D (k + i)) q = [] := fun q => by
        induction q with
        | zero => rfl
        | succ q ih => simp only [HH]; cases el q <;> simp [ih]
      exact key m
    have hm0 : mutD el (fun i => inD D (k + i)) m = false := mutD_off m fun i Ψ hi _ => by rw [hin _ (by omega)]; simp
    rw [this, hm0]
    exact hs.sub fun i v h => by simp [X.get] at h
  · intro s v hv
    have : ∀ q, q ≤ m → view dst el e (fun i => inD D (k + i)) s q = X.get e s := fun q => by
      induction q with
      | zero => intro _; rfl
      | succ q ih =>
        intro hq
        simp only [view]
        rw [ih (by omega)]
        have : inD D (k + q) = false := by rw [hin _ (by omega)]; simp
        cases el q <;> simp [this]
    rw [this m (Nat.le_refl _)] at hv
    exact hs.env s v hv
  · intro i _ Φ hi _ hin'
    rw [hin _ (by omega)] at hin'
    simp at hin'
    omega
/-- A region that draws its order. -/
theorem XC.draw {rid : Nat} {ops : Array Oper} (hm : P.follows .mixedOrders = true) (h : XD P r w0 B n ops ops.toList Q e ds L [] none) : XC P r w0 B n (.region rid ops true) Q e ds L := by
  obtain ⟨_, _, _, _, _, _, _, he, _⟩ := h.parts
  exact .drawR hm he h.run
/-- The same where some entries stand aside, for the one operation that takes them. -/
theorem XC.drawM {C0 : Heap} {rid : Nat} {ops : Array Oper} (hm : P.follows .mixedOrders = true) (h : XD P r w0 B n ops ops.toList Q e ds L [] (some C0)) : XC P r w0 B n (.region rid ops true) Q e ds (C0 ++ L) := by
  obtain ⟨_, _, _, _, _, _, _, he, _⟩ := h.parts
  exact .drawR hm he h.run
end
end Go.X
