/- The base of the walks: judgements over an abstract world. An activation's slots as a list of pairs, the blocks that it owns as a list, and a frame: every other block stays as it was. -/
import Derived.RangeFuncLeaves
import Derived.TacticsIn
import Derived.Laws.Sem
import Derived.Laws.World
import Derived.KernelRfl
namespace Go.X
open Go

/-! ### Slots -/
abbrev Env := List (Nat × Value)
def get : Env → Nat → Option Value
  | [], _ => none
  | (j, v) :: e, i => match Nat.beq i j with
    | true => some v
    | false => get e i
def ev (e : Env) : Operand → Option Value
  | .tmp t => get e t
  | .const v => some v
  | .global g => some (.pointer (some ⟨g, 0, none⟩))
  | .func f => some (.func (.func f) #[] #[])
def evs (e : Env) : List Operand → Option (List Value)
  | [] => some []
  | x :: xs => match ev e x with
    | some v => match evs e xs with
      | some vs => some (v :: vs)
      | none => none
    | none => none

/-! ### Blocks -/
inductive Ent where
  | blk (b : Nat) (cs : List Value) (t : TypeId)
  | obj (b : Nat) (o : Obj)
  | sl (v : Value) (t : TypeId) (k : Nat) (xs : List Value)
  | abs (bs : List Nat) (p : World → Prop)
abbrev Heap := List Ent
/-- the blocks of a slice value that is owned: none if it has no room -/
def slIds : Value → List Nat
  | .slice (some a) _ (_ + 1) => [a.block]
  | _ => []
def Ent.ids : Ent → List Nat
  | .blk b _ _ => [b]
  | .obj b _ => [b]
  | .sl v _ _ _ => slIds v
  | .abs bs _ => bs
def ids : Heap → List Nat
  | [] => []
  | x :: L => x.ids ++ ids L
/-- A slice value owns its row: k cells an element; xs are the cells of its elements. -/
def SlOk (w : World) (v : Value) (t : TypeId) (k : Nat) (xs : List Value) : Prop :=
  ∃ ao n cap, v = .slice ao n cap ∧ n * k = xs.length ∧ n ≤ cap ∧
    (cap = 0 ∨ ∃ (b : Nat) (cs : List Value), ao = some ⟨b, 0, none⟩ ∧ w.heap[b]? = some (.cells cs.toArray t (0, 0)) ∧ cap * k ≤ cs.length ∧ cs.take xs.length = xs)
def Ent.ok (w : World) : Ent → Prop
  | .blk b cs t => w.heap[b]? = some (.cells cs.toArray t (0, 0))
  | .obj b o => w.heap[b]? = some o
  | .sl v t k xs => SlOk w v t k xs
  | .abs bs p => (∀ w' : World, (∀ b ∈ bs, w'.heap[b]? = w.heap[b]?) → p w') ∧ ∀ b ∈ bs, b < w.heap.size
def Ent.live (w : World) (x : Ent) : Prop := ∀ b ∈ x.ids, b < w.heap.size

structure Owns (w : World) (L : Heap) : Prop where
  ok : ∀ x ∈ L, x.ok w
  nd : (ids L).Nodup

/-- Every block that was there and is not in B is as it was. -/
structure Kept (B : List Nat) (w w' : World) : Prop where
  os : w'.os = w.os
  tape : w'.tape = w.tape
  output : w'.output = w.output
  size : w.heap.size ≤ w'.heap.size
  same : ∀ b, b < w.heap.size → b ∉ B → w'.heap[b]? = w.heap[b]?
  frz : ∀ a, a.block < w.heap.size → w'.frozen? a = w.frozen? a

theorem Kept.refl (B : List Nat) (w : World) : Kept B w w := ⟨rfl, rfl, rfl, Nat.le_refl _, fun _ _ _ => rfl, fun _ _ => rfl⟩
theorem Kept.drawn (B : List Nat) (w : World) (n : Nat) : Kept B w { w with drawn := n } := ⟨rfl, rfl, rfl, Nat.le_refl _, fun _ _ _ => rfl, fun _ _ => rfl⟩
theorem Kept.mono {B B' : List Nat} {w w' : World} (h : Kept B w w') (hB : ∀ b ∈ B, b ∈ B') : Kept B' w w' :=
  ⟨h.os, h.tape, h.output, h.size, fun b hb hn => h.same b hb (fun hm => hn (hB b hm)), h.frz⟩
/-- A further step that writes to what was written, or to what is new. -/
theorem Kept.trans {B C : List Nat} {w w' w'' : World} (h : Kept B w w') (k : Kept C w' w'') (hC : ∀ b ∈ C, b ∈ B ∨ w.heap.size ≤ b) : Kept B w w'' :=
  ⟨k.os.trans h.os, k.tape.trans h.tape, k.output.trans h.output, Nat.le_trans h.size k.size, fun b hb hn =>
    (k.same b (Nat.lt_of_lt_of_le hb h.size) (fun hm => (hC b hm).elim hn (fun hle => absurd hb (Nat.not_lt.2 hle)))).trans (h.same b hb hn), fun a ha => (k.frz a (Nat.lt_of_lt_of_le ha h.size)).trans (h.frz a ha)⟩

theorem Ent.ok_live {w : World} {x : Ent} (h : x.ok w) : x.live w := by
  intro b hb
  cases x with
  | blk b' cs t =>
    simp only [Ent.ids, List.mem_singleton] at hb; subst hb
    exact (Array.getElem?_eq_some_iff.1 h).1
  | obj b' o =>
    simp only [Ent.ids, List.mem_singleton] at hb; subst hb
    exact (Array.getElem?_eq_some_iff.1 h).1
  | sl v t k xs =>
    obtain ⟨ao, n, cap, rfl, _, _, hc⟩ := h
    rcases hc with rfl | ⟨b', cs, rfl, hh, _, _⟩
    · cases ao <;> simp [Ent.ids, slIds] at hb
    · cases cap with
      | zero => simp [Ent.ids, slIds] at hb
      | succ c =>
        simp only [Ent.ids, slIds, List.mem_singleton] at hb; subst hb
        exact (Array.getElem?_eq_some_iff.1 hh).1
  | abs bs p => exact h.2 b hb

/-- An entry speaks of its own blocks alone. -/
theorem Ent.ok_of_same {w w' : World} {x : Ent} (h : x.ok w) (hs : ∀ b ∈ x.ids, w'.heap[b]? = w.heap[b]?) : x.ok w' := by
  cases x with
  | blk b cs t => exact (hs b (by simp [Ent.ids])).trans h
  | obj b o => exact (hs b (by simp [Ent.ids])).trans h
  | sl v t k xs =>
    obtain ⟨ao, n, cap, rfl, h1, h2, hc⟩ := h
    refine ⟨ao, n, cap, rfl, h1, h2, ?_⟩
    rcases hc with rfl | ⟨b', cs, rfl, hh, h3, h4⟩
    · exact .inl rfl
    · cases cap with
      | zero => exact .inl rfl
      | succ c => exact .inr ⟨b', cs, rfl, (hs b' (by simp [Ent.ids, slIds])).trans hh, h3, h4⟩
  | abs bs p =>
    obtain ⟨h1, h2⟩ := h
    refine ⟨fun w'' hw => h1 w'' fun b hb => (hw b hb).trans (hs b hb), fun b hb => ?_⟩
    have hlt := h2 b hb
    rcases Nat.lt_or_ge b w'.heap.size with h | h
    · exact h
    · have h3 := hs b hb
      rw [Array.getElem?_eq_none h, Array.getElem?_eq_getElem hlt] at h3
      cases h3

theorem mem_ids {L : Heap} {b : Nat} : b ∈ ids L ↔ ∃ x ∈ L, b ∈ x.ids := by
  induction L with
  | nil => simp [ids]
  | cons x L ih => simp [ids, ih]
theorem ids_append (L M : Heap) : ids (L ++ M) = ids L ++ ids M := by
  induction L with
  | nil => rfl
  | cons x L ih => simp [ids, ih]

theorem Owns.live {w : World} {L : Heap} (h : Owns w L) : ∀ b ∈ ids L, b < w.heap.size := fun b hb => by
  obtain ⟨x, hx, hb⟩ := mem_ids.1 hb
  exact Ent.ok_live (h.ok x hx) b hb
theorem Owns.of_kept {w w' : World} {L : Heap} {B : List Nat} (h : Owns w L) (k : Kept B w w') (hB : ∀ b ∈ ids L, b ∉ B) : Owns w' L :=
  ⟨fun x hx => Ent.ok_of_same (h.ok x hx) (fun b hb => k.same b (Ent.ok_live (h.ok x hx) b hb) (hB b (mem_ids.2 ⟨x, hx, hb⟩))), h.nd⟩
theorem Owns.append {w : World} {L M : Heap} (h : Owns w L) (k : Owns w M) (hd : ∀ b ∈ ids L, b ∉ ids M) : Owns w (L ++ M) :=
  ⟨fun x hx => (List.mem_append.1 hx).elim (h.ok x) (k.ok x), by
    rw [ids_append]; exact List.nodup_append.2 ⟨h.nd, k.nd, fun a ha b hb hab => hd a ha (hab ▸ hb)⟩⟩
theorem Owns.left {w : World} {L M : Heap} (h : Owns w (L ++ M)) : Owns w L :=
  ⟨fun x hx => h.ok x (List.mem_append_left _ hx), by have := h.nd; rw [ids_append] at this; exact (List.nodup_append.1 this).1⟩
theorem Owns.right {w : World} {L M : Heap} (h : Owns w (L ++ M)) : Owns w M :=
  ⟨fun x hx => h.ok x (List.mem_append_right _ hx), by have := h.nd; rw [ids_append] at this; exact (List.nodup_append.1 this).2.1⟩
theorem Owns.apart {w : World} {L M : Heap} (h : Owns w (L ++ M)) : ∀ b ∈ ids L, b ∉ ids M := fun b hb hm => by
  have := h.nd; rw [ids_append] at this; exact (List.nodup_append.1 this).2.2 b hb b hm rfl
theorem Owns.nil (w : World) : Owns w [] := ⟨fun _ h => (by cases h), List.nodup_nil⟩

/-! ### Choosing entries by their places -/
def pick (L : Heap) : List Nat → Heap
  | [] => []
  | i :: is => match L[i]? with
    | some x => x :: pick L is
    | none => pick L is
theorem mem_pick {L : Heap} {is : List Nat} {x : Ent} : x ∈ pick L is ↔ ∃ i ∈ is, L[i]? = some x := by
  induction is with
  | nil => simp [pick]
  | cons i is ih =>
    simp only [pick]
    cases h : L[i]? with
    | none => simp [ih, h]
    | some y => simp [ih, h, eq_comm]
theorem ids_disj {L : Heap} (h : (ids L).Nodup) : ∀ {i j : Nat} {x y : Ent}, i ≠ j → L[i]? = some x → L[j]? = some y → ∀ b ∈ x.ids, b ∉ y.ids := by
  induction L with
  | nil => intro i j x y _ hx; simp at hx
  | cons z L ih =>
    intro i j x y hij hx hy b hb hb'
    simp only [ids] at h
    obtain ⟨_, h2, h3⟩ := List.nodup_append.1 h
    cases i with
    | zero =>
      simp at hx; subst hx
      cases j with
      | zero => exact hij rfl
      | succ j => simp at hy; exact h3 b hb b (mem_ids.2 ⟨y, List.mem_of_getElem? hy, hb'⟩) rfl
    | succ i =>
      simp at hx
      cases j with
      | zero => simp at hy; subst hy; exact h3 b hb' b (mem_ids.2 ⟨x, List.mem_of_getElem? hx, hb⟩) rfl
      | succ j => simp at hy; exact ih h2 (fun e => hij (by rw [e])) hx hy b hb hb'
theorem ids_nodup_of {L : Heap} (h : (ids L).Nodup) : ∀ {i : Nat} {x : Ent}, L[i]? = some x → x.ids.Nodup := by
  induction L with
  | nil => intro i x hx; simp at hx
  | cons z L ih =>
    intro i x hx
    simp only [ids] at h
    obtain ⟨h1, h2, _⟩ := List.nodup_append.1 h
    cases i with
    | zero => simp at hx; subst hx; exact h1
    | succ i => simp at hx; exact ih h2 hx
theorem pick_nodup {L : Heap} (h : (ids L).Nodup) : ∀ {is : List Nat}, is.Nodup → (ids (pick L is)).Nodup := by
  intro is
  induction is with
  | nil => intro _; exact List.nodup_nil
  | cons i is ih =>
    intro hn
    obtain ⟨h1, h2⟩ := List.nodup_cons.1 hn
    simp only [pick]
    cases hx : L[i]? with
    | none => exact ih h2
    | some x =>
      simp only [ids]
      refine List.nodup_append.2 ⟨ids_nodup_of h hx, ih h2, ?_⟩
      intro a ha b hb hab
      subst hab
      obtain ⟨y, hy, hb⟩ := mem_ids.1 hb
      obtain ⟨j, hj, hy⟩ := mem_pick.1 hy
      exact ids_disj h (fun e => h1 (by rw [e]; exact hj)) hx hy a ha hb
theorem Owns.pick {w : World} {L : Heap} (h : Owns w L) {is : List Nat} (hn : is.Nodup) : Owns w (pick L is) :=
  ⟨fun x hx => by obtain ⟨i, _, hi⟩ := mem_pick.1 hx; exact h.ok x (List.mem_of_getElem? hi), pick_nodup h.nd hn⟩
theorem pick_append (L : Heap) (is js : List Nat) : X.pick L (is ++ js) = X.pick L is ++ X.pick L js := by
  induction is with
  | nil => rfl
  | cons i is ih =>
    simp only [List.cons_append, X.pick]
    cases L[i]? <;> simp [ih]
theorem ids_pick_sub {L : Heap} {is : List Nat} {b : Nat} (h : b ∈ ids (X.pick L is)) : b ∈ ids L := by
  obtain ⟨x, hx, hb⟩ := mem_ids.1 h
  obtain ⟨i, _, hi⟩ := mem_pick.1 hx
  exact mem_ids.2 ⟨x, List.mem_of_getElem? hi, hb⟩

/-! ### What an activation knows -/
structure Sit (w0 : World) (B : List Nat) (n : Nat) (e : Env) (ds : List Deferred) (L : Heap) (a : Act) (w : World) : Prop where
  sz : a.tmps.size = n
  df : a.defers = ds
  env : ∀ i v, get e i = some v → a.tmps[i]? = some v
  own : Owns w L
  kept : Kept B w0 w
  wr : ∀ b ∈ ids L, b ∈ B ∨ w0.heap.size ≤ b

section
variable {w0 : World} {B : List Nat} {n : Nat} {e : Env} {ds : List Deferred} {L : Heap} {a : Act} {w : World}
theorem Sit.eval (h : Sit w0 B n e ds L a w) {x : Operand} {v : Value} (hx : ev e x = some v) : a.eval x = v := by
  cases x with
  | tmp t =>
    have := h.env t v hx
    simp only [Act.eval, Array.getD_eq_getD_getElem?, this, Option.getD_some]
  | const u => simpa [ev, Act.eval] using hx
  | global g => simpa [ev, Act.eval] using hx
  | func f => simpa [ev, Act.eval] using hx
theorem Sit.evals (h : Sit w0 B n e ds L a w) : ∀ {xs : List Operand} {vs : List Value}, evs e xs = some vs → xs.map a.eval = vs := by
  intro xs
  induction xs with
  | nil => intro vs hv; simpa [evs] using hv
  | cons x xs ih =>
    intro vs hv
    simp only [evs] at hv
    cases hx : ev e x with
    | none => rw [hx] at hv; cases hv
    | some v =>
      rw [hx] at hv
      cases hxs : evs e xs with
      | none => rw [hxs] at hv; cases hv
      | some us =>
        rw [hxs] at hv
        cases hv
        simp [h.eval hx, ih hxs]

theorem get_cons {e : Env} {i j : Nat} {u v : Value} : get ((j, u) :: e) i = some v ↔ (i = j ∧ u = v) ∨ (i ≠ j ∧ get e i = some v) := by
  simp only [get]
  by_cases h : i = j
  · subst h; simp
  · have : Nat.beq i j = false := by cases hb : Nat.beq i j with | false => rfl | true => exact absurd (Nat.eq_of_beq_eq_true hb) h
    simp [this, h]
theorem put_get? {a : Act} {d : Nat} {v : Value} {i : Nat} (hd : d < a.tmps.size) : (a.put (some d) v).tmps[i]? = if i = d then some v else a.tmps[i]? := by
  simp only [Act.put]
  by_cases h : i = d
  · subst h; simp [hd]
  · rw [if_neg h, Array.getElem?_setIfInBounds_ne (fun e => h e.symm)]

theorem Sit.put (h : Sit w0 B n e ds L a w) {d : Nat} {v : Value} (hd : Nat.blt d n = true) : Sit w0 B n ((d, v) :: e) ds L (a.put (some d) v) w where
  sz := by simp [Act.put, h.sz]
  df := h.df
  env := fun i u hu => by
    rw [put_get? (by rw [h.sz]; exact of_decide_eq_true (by simpa using hd))]
    rcases get_cons.1 hu with ⟨rfl, rfl⟩ | ⟨hne, hu⟩
    · simp
    · rw [if_neg hne]; exact h.env i u hu
  own := h.own
  kept := h.kept
  wr := h.wr
theorem Sit.putNone (h : Sit w0 B n e ds L a w) (v : Value) : Sit w0 B n e ds L (a.put none v) w := h

/-- A step of the world under the same slots. -/
theorem Sit.step (h : Sit w0 B n e ds L a w) {w' : World} {C : List Nat} {L' : Heap} (k : Kept C w w') (hC : ∀ b ∈ C, b ∈ ids L) (ho : Owns w' L')
    (hn : ∀ b ∈ ids L', b ∈ ids L ∨ w.heap.size ≤ b) : Sit w0 B n e ds L' a w' where
  sz := h.sz
  df := h.df
  env := h.env
  own := ho
  kept := h.kept.trans k (fun b hb => h.wr b (hC b hb))
  wr := fun b hb => (hn b hb).elim (h.wr b) (fun hle => .inr (Nat.le_trans h.kept.size hle))
theorem Sit.sub (h : Sit w0 B n e ds L a w) {e' : Env} (he : ∀ i v, get e' i = some v → get e i = some v) : Sit w0 B n e' ds L a w :=
  ⟨h.sz, h.df, fun i v hi => h.env i v (he i v hi), h.own, h.kept, h.wr⟩
theorem Sit.pick (h : Sit w0 B n e ds L a w) {is : List Nat} (hn : is.Nodup) : Sit w0 B n e ds (X.pick L is) a w :=
  ⟨h.sz, h.df, h.env, h.own.pick hn, h.kept, fun b hb => h.wr b (ids_pick_sub hb)⟩
end

/-! ### The judgements -/
def FW (r : Option Nat) : Fence := { fn := fun _ => True, depth := none, alive := false, round := r }
@[simp] theorem FW_fn (r : Option Nat) (f : FuncId) : (FW r).fn f = True := rfl
@[simp] theorem FW_depth (r : Option Nat) : (FW r).depth = none := rfl
@[simp] theorem FW_round (r : Option Nat) : (FW r).round = r := rfl
abbrev Post := Exit → Act → World → Prop

structure XC (P : Program) (r : Option Nat) (w0 : World) (B : List Nat) (n : Nat) (c : Code) (Q : Post) (e : Env) (ds : List Deferred) (L : Heap) : Prop where
  run : ∀ a w, Sit w0 B n e ds L a w → c.wpIn (FW r) 0 P Q a w
structure XL (P : Program) (r : Option Nat) (w0 : World) (B : List Nat) (n : Nat) (ops : Array Oper) (l : List Oper) (Q : Post) (e : Env) (ds : List Deferred) (L : Heap) : Prop where
  run : ∀ a w, Sit w0 B n e ds L a w → wpListIn (FW r) 0 P ops Q l a w
structure XE (w0 : World) (B : List Nat) (n : Nat) (ex : Exit) (Q : Post) (e : Env) (ds : List Deferred) (L : Heap) : Prop where
  run : ∀ a w, Sit w0 B n e ds L a w → Q ex a w

section
variable {P : Program} {r : Option Nat} {w0 : World} {B : List Nat} {n : Nat} {Q : Post} {e : Env} {ds : List Deferred} {L : Heap}

/-! ### Code -/
theorem XC.seq {x y : Code} (h : XC P r w0 B n x (Exit.then (y.wpIn (FW r) 0 P Q) Q) e ds L) : XC P r w0 B n (.seq x y) Q e ds L :=
  ⟨fun a w hs => wpIn_seq (h.run a w hs)⟩
theorem XC.block {id : Nat} {c : Code} (h : XC P r w0 B n c (Exit.inBlock id Q) e ds L) : XC P r w0 B n (.block id c) Q e ds L :=
  ⟨fun a w hs => wpIn_block (h.run a w hs)⟩
theorem XC.skip (h : XE w0 B n .normal Q e ds L) : XC P r w0 B n .skip Q e ds L := ⟨fun a w hs => wpIn_skip (h.run a w hs)⟩
theorem XC.exit {id : Nat} (h : XE w0 B n (.exit id) Q e ds L) : XC P r w0 B n (.exit id) Q e ds L := ⟨fun a w hs => wpIn_exit (h.run a w hs)⟩
theorem XC.ret (h : XE w0 B n .ret Q e ds L) : XC P r w0 B n .ret Q e ds L := ⟨fun a w hs => wpIn_ret (h.run a w hs)⟩
theorem XC.label {l : Nat} (h : XE w0 B n .normal Q e ds L) : XC P r w0 B n (.label l) Q e ds L := ⟨fun a w hs => wpIn_label (h.run a w hs)⟩
theorem XC.goto {l : Nat} (h : XE w0 B n (.goto l) Q e ds L) : XC P r w0 B n (.goto l) Q e ds L := ⟨fun a w hs => wpIn_goto (h.run a w hs)⟩
theorem XC.region {id : Nat} {ops : Array Oper} (h : XL P r w0 B n ops ops.toList Q e ds L) : XC P r w0 B n (.region id ops false) Q e ds L :=
  ⟨fun a w hs => wpIn_region_list (h.run a w hs)⟩
/-- A test whose value is known. -/
theorem XC.condT {c : Operand} {x y : Code} {t : Bool} (hc : ev e c = some (.bool t)) (ht : t = true) (h : XC P r w0 B n x Q e ds L) : XC P r w0 B n (.cond c x y) Q e ds L :=
  ⟨fun a w hs => wpIn_cond_true (by rw [hs.eval hc, ht]) (h.run a w hs)⟩
theorem XC.condF {c : Operand} {x y : Code} {t : Bool} (hc : ev e c = some (.bool t)) (ht : t = false) (h : XC P r w0 B n y Q e ds L) : XC P r w0 B n (.cond c x y) Q e ds L :=
  ⟨fun a w hs => wpIn_cond_false (by rw [hs.eval hc, ht]) (h.run a w hs)⟩
theorem XC.cond {c : Operand} {x y : Code} {t : Bool} (hc : ev e c = some (.bool t)) (h1 : t = true → XC P r w0 B n x Q e ds L)
    (h2 : t = false → XC P r w0 B n y Q e ds L) : XC P r w0 B n (.cond c x y) Q e ds L := by
  cases t
  · exact .condF hc rfl (h2 rfl)
  · exact .condT hc rfl (h1 rfl)
/-- A test by a proposition. -/
theorem XC.condP {c : Operand} {x y : Code} {p : Prop} [Decidable p] (hc : ev e c = some (.bool (decide p))) (h1 : p → XC P r w0 B n x Q e ds L)
    (h2 : ¬ p → XC P r w0 B n y Q e ds L) : XC P r w0 B n (.cond c x y) Q e ds L := by
  by_cases h : p
  · exact .condT hc (by simp [h]) (h1 h)
  · exact .condF hc (by simp [h]) (h2 h)

/-! ### Exits -/
theorem XE.then {y : Code} (h : XC P r w0 B n y Q e ds L) : XE w0 B n .normal (Exit.then (y.wpIn (FW r) 0 P Q) Q) e ds L := ⟨h.run⟩
theorem XE.thenK {K : Act → World → Prop} (h : ∀ a w, Sit w0 B n e ds L a w → K a w) : XE w0 B n .normal (Exit.then K Q) e ds L := ⟨h⟩
theorem XE.pass_exit {id : Nat} {K : Act → World → Prop} (h : XE w0 B n (.exit id) Q e ds L) : XE w0 B n (.exit id) (Exit.then K Q) e ds L := ⟨h.run⟩
theorem XE.pass_goto {l : Nat} {K : Act → World → Prop} (h : XE w0 B n (.goto l) Q e ds L) : XE w0 B n (.goto l) (Exit.then K Q) e ds L := ⟨h.run⟩
theorem XE.pass_ret {K : Act → World → Prop} (h : XE w0 B n .ret Q e ds L) : XE w0 B n .ret (Exit.then K Q) e ds L := ⟨h.run⟩
theorem XE.block_normal {id : Nat} (h : XE w0 B n .normal Q e ds L) : XE w0 B n .normal (Exit.inBlock id Q) e ds L := ⟨h.run⟩
theorem XE.block_ret {id : Nat} (h : XE w0 B n .ret Q e ds L) : XE w0 B n .ret (Exit.inBlock id Q) e ds L := ⟨h.run⟩
theorem XE.block_goto {id l : Nat} (h : XE w0 B n (.goto l) Q e ds L) : XE w0 B n (.goto l) (Exit.inBlock id Q) e ds L := ⟨h.run⟩
theorem XE.block_here {id : Nat} (h : XE w0 B n .normal Q e ds L) : XE w0 B n (.exit id) (Exit.inBlock id Q) e ds L := ⟨fun a w hs => by
  simp only [Exit.inBlock, if_true]; exact h.run a w hs⟩
theorem XE.block_other {id id' : Nat} (hne : Nat.beq id' id = false) (h : XE w0 B n (.exit id') Q e ds L) : XE w0 B n (.exit id') (Exit.inBlock id Q) e ds L := ⟨fun a w hs => by
  have : id' ≠ id := Nat.ne_of_beq_eq_false hne
  simp only [Exit.inBlock, if_neg this]; exact h.run a w hs⟩

/-! ### Operations -/
theorem XL.nil {ops : Array Oper} (h : XE w0 B n .normal Q e ds L) : XL P r w0 B n ops [] Q e ds L := ⟨fun a w hs => wpListIn_nil (h.run a w hs)⟩

/-- Whatever an operation does to the world, if it yields a value: x is what is not known ahead. -/
theorem XL.valX {α : Type} {ops : Array Oper} {rest : List Oper} {d : Nat} {op : Op} {ty : TypeId} {pos : String} {af : Array Edge} {v : α → Value} {φ : α → Prop} {L' : α → Heap} (hd : Nat.blt d n = true)
    (hop : ∀ c, op ≠ .defer c)
    (hrun : ∀ a w, Sit w0 B n e ds L a w → ∃ x w', φ x ∧ (execOp a.eval ⟨some d, op, ty, pos, af, none⟩).run P w = .ok (.value (v x)) w' ∧ Sit w0 B n e ds (L' x) a w')
    (h : ∀ x, φ x → XL P r w0 B n ops rest Q ((d, v x) :: e) ds (L' x)) : XL P r w0 B n ops (⟨some d, op, ty, pos, af, none⟩ :: rest) Q e ds L := by
  refine ⟨fun a w hs => ?_⟩
  obtain ⟨x, w', hx, hr, hs'⟩ := hrun a w hs
  refine wpListIn_plain rfl (fun K hK => ?_)
  refine ⟨fun _ _ => trivial, ?_⟩
  have hsem : Oper.semAt (FW r).round a.eval ⟨some d, op, ty, pos, af, none⟩ = execOp a.eval ⟨some d, op, ty, pos, af, none⟩ := by
    simp only [FW_round]
    cases r with
    | none => rfl
    | some l => exact Oper.semAt_some l _ _ hop
  rw [hsem, hr]
  exact hK _ _ ((h x hx).run _ _ (hs'.put hd))
/-- The same where nothing is yielded (a store). -/
theorem XL.unit {ops : Array Oper} {rest : List Oper} {op : Op} {ty : TypeId} {pos : String} {af : Array Edge} {L' : Heap}
    (hop : ∀ c, op ≠ .defer c)
    (hrun : ∀ a w, Sit w0 B n e ds L a w → ∃ w', (execOp a.eval ⟨none, op, ty, pos, af, none⟩).run P w = .ok .skip w' ∧ Sit w0 B n e ds L' a w')
    (h : XL P r w0 B n ops rest Q e ds L') : XL P r w0 B n ops (⟨none, op, ty, pos, af, none⟩ :: rest) Q e ds L := by
  refine ⟨fun a w hs => ?_⟩
  obtain ⟨w', hr, hs'⟩ := hrun a w hs
  refine wpListIn_plain rfl (fun K hK => ?_)
  refine ⟨fun _ _ => trivial, ?_⟩
  have hsem : Oper.semAt (FW r).round a.eval ⟨none, op, ty, pos, af, none⟩ = execOp a.eval ⟨none, op, ty, pos, af, none⟩ := by
    simp only [FW_round]
    cases r with
    | none => rfl
    | some l => exact Oper.semAt_some l _ _ hop
  rw [hsem, hr]
  exact hK _ _ (h.run _ _ hs')

/-- A guard that says yes falls away. -/
theorem XL.guardY {ops : Array Oper} {rest : List Oper} {dst : Option Nat} {op : Op} {ty : TypeId} {pos : String} {af : Array Edge} {j s : Nat} {want b : Bool}
    (hj : (ops[j]?).bind (·.dst) = some s) (hb : get e s = some (.bool b)) (hw : b = want)
    (h : XL P r w0 B n ops (⟨dst, op, ty, pos, af, none⟩ :: rest) Q e ds L) : XL P r w0 B n ops (⟨dst, op, ty, pos, af, some (j, want)⟩ :: rest) Q e ds L := by
  subst hw
  refine ⟨fun a w hs => ?_⟩
  have h' := h.run a w hs
  simp only [wpListIn] at h' ⊢
  have : Region.wanted ⟨dst, op, ty, pos, af, some (j, b)⟩ (yielded ops a.tmps) = true := by
    simp [Region.wanted, yielded, hj, hs.env s _ hb]
  rw [if_pos this]
  have h2 : Region.wanted ⟨dst, op, ty, pos, af, none⟩ (yielded ops a.tmps) = true := rfl
  rw [if_pos h2] at h'
  exact h'
def noB (want : Bool) : Value → Bool
  | .bool b => Bool.xor b want
  | .tuple _ => true
  | _ => false
/-- A guard that says no: the operation is passed over. -/
theorem XL.guardN {ops : Array Oper} {rest : List Oper} {d : Nat} {op : Op} {ty : TypeId} {pos : String} {af : Array Edge} {j s : Nat} {want : Bool} {v : Value} (hd : Nat.blt d n = true)
    (hj : (ops[j]?).bind (·.dst) = some s) (hb : get e s = some v) (hw : noB want v = true)
    (h : XL P r w0 B n ops rest Q ((d, undef) :: e) ds L) : XL P r w0 B n ops (⟨some d, op, ty, pos, af, some (j, want)⟩ :: rest) Q e ds L := by
  refine ⟨fun a w hs => ?_⟩
  simp only [wpListIn]
  have : Region.wanted ⟨some d, op, ty, pos, af, some (j, want)⟩ (yielded ops a.tmps) = false := by
    simp only [Region.wanted, yielded, hj, Option.bind_some, hs.env s _ hb]
    cases v <;> simp [noB] at hw ⊢
    rename_i b
    cases b <;> cases want <;> simp at hw ⊢
  rw [if_neg (by simp [this])]
  exact ⟨fun _ _ => trivial, h.run _ _ (hs.put hd)⟩
/-- A slot's value by cases: what is learnt of it is laid ahead of what was known. -/
theorem Sit.know {w0 : World} {B : List Nat} {n : Nat} {e : Env} {ds : List Deferred} {L : Heap} {a : Act} {w : World} (hs : Sit w0 B n e ds L a w) {s : Nat} {u v : Value}
    (hb : get e s = some u) (huv : u = v) : Sit w0 B n ((s, v) :: e) ds L a w :=
  ⟨hs.sz, hs.df, fun i x hx => by
    rcases get_cons.1 hx with ⟨rfl, rfl⟩ | ⟨_, h⟩
    · subst huv; exact hs.env _ _ hb
    · exact hs.env _ _ h, hs.own, hs.kept, hs.wr⟩
theorem XL.caseB {ops : Array Oper} {l : List Oper} {s : Nat} {b : Bool} (hb : get e s = some (.bool b))
    (h1 : b = true → XL P r w0 B n ops l Q ((s, .bool true) :: e) ds L) (h2 : b = false → XL P r w0 B n ops l Q ((s, .bool false) :: e) ds L) :
    XL P r w0 B n ops l Q e ds L := by
  refine ⟨fun a w hs => ?_⟩
  cases b
  · exact (h2 rfl).run a w (hs.know hb rfl)
  · exact (h1 rfl).run a w (hs.know hb rfl)
end
end Go.X
