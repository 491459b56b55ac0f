/- Operations on memory: loads, stores, new blocks, addresses. -/
import Derived.Test.YtmmofanfgoahkaaGreatDoorOps
import Derived.Laws.Cells
import Derived.Laws.CopyRow
namespace Go.X
open Go

/-! ### Entries that change -/
inductive Upd : Heap → Ent → Ent → Heap → Prop
  | here {L x y} : Upd (x :: L) x y (y :: L)
  | there {L L' x y z} (h : Upd L x y L') : Upd (z :: L) x y (z :: L')
theorem Upd.ids {L L' : Heap} {x y : Ent} (h : Upd L x y L') (hi : y.ids = x.ids) : X.ids L' = X.ids L := by
  induction h with
  | here => simp [X.ids, hi]
  | there _ ih => simp [X.ids, ih hi]
theorem Upd.mem {L L' : Heap} {x y : Ent} (h : Upd L x y L') : x ∈ L := by
  induction h with
  | here => exact .head _
  | there _ ih => exact .tail _ ih
theorem Upd.owns {w w' : World} {L L' : Heap} {x y : Ent} (h : Upd L x y L') (ho : Owns w L) (hi : y.ids = x.ids) (hy : y.ok w') (k : Kept x.ids w w') : Owns w' L' := by
  refine ⟨?_, by rw [h.ids hi]; exact ho.nd⟩
  have hnd := ho.nd
  have hok := ho.ok
  clear ho
  induction h with
  | @here L0 x y =>
    intro z hz
    rcases List.mem_cons.1 hz with rfl | hz
    · exact hy
    · refine Ent.ok_of_same (hok z (.tail _ hz)) (fun b hb => k.same b (Ent.ok_live (hok z (.tail _ hz)) b hb) (fun hx => ?_))
      simp only [X.ids] at hnd
      exact (List.nodup_append.1 hnd).2.2 b hx b (mem_ids.2 ⟨z, hz, hb⟩) rfl
  | @there L0 L1 x y u hu ih =>
    intro z hz
    simp only [X.ids] at hnd
    rcases List.mem_cons.1 hz with rfl | hz
    · refine Ent.ok_of_same (hok z (.head _)) (fun b hb => k.same b (Ent.ok_live (hok z (.head _)) b hb) (fun hx => ?_))
      exact (List.nodup_append.1 hnd).2.2 b hb b (mem_ids.2 ⟨x, hu.mem, hx⟩) rfl
    · exact ih hi hy k (List.nodup_append.1 hnd).2.1 (fun v hv => hok v (.tail _ hv)) z hz

/-! ### Cells in a row -/
/-- vs laid over cs from off on. -/
def SplL (cs : List Value) (off : Nat) (vs cs' : List Value) : Prop := off + vs.length ≤ cs.length ∧ cs' = cs.take off ++ vs ++ cs.drop (off + vs.length)
theorem SplL.nil {cs : List Value} : SplL cs 0 [] cs := ⟨by simp, by simp⟩
theorem SplL.zero {c v : Value} {cs vs cs' : List Value} (h : SplL cs 0 vs cs') : SplL (c :: cs) 0 (v :: vs) (v :: cs') := by
  obtain ⟨h1, h2⟩ := h
  refine ⟨by simp at h1 ⊢; omega, ?_⟩
  rw [h2]; simp
theorem SplL.succ {c : Value} {cs vs cs' : List Value} {k : Nat} (h : SplL cs k vs cs') : SplL (c :: cs) (k + 1) vs (c :: cs') := by
  obtain ⟨h1, h2⟩ := h
  refine ⟨by simp at h1 ⊢; omega, ?_⟩
  rw [h2]; simp [Nat.add_right_comm]
theorem SplL.length {cs vs cs' : List Value} {k : Nat} (h : SplL cs k vs cs') : cs'.length = cs.length := by
  obtain ⟨h1, rfl⟩ := h; simp; omega
theorem SplL.one {cs : List Value} {k : Nat} (v : Value) (h : k < cs.length) : SplL cs k [v] (cs.set k v) := by
  refine ⟨by simp; omega, ?_⟩
  apply List.ext_getElem?
  intro i
  simp only [List.getElem?_set, List.length_singleton]
  rcases Nat.lt_trichotomy i k with hlt | rfl | hgt
  · rw [if_neg (by omega), List.append_assoc, List.getElem?_append_left (by simp; omega)]; simp [hlt]
  · rw [if_pos rfl, if_pos h, List.append_assoc, List.getElem?_append_right (by simp; omega)]
    simp [Nat.min_eq_left (Nat.le_of_lt h)]
  · rw [if_neg (by omega), List.getElem?_append_right (by simp; omega)]
    simp only [List.length_append, List.length_take, List.length_singleton, List.getElem?_drop]
    rw [Nat.min_eq_left (Nat.le_of_lt h)]
    congr 1; omega
/-- The first s of a list, if there are so many. -/
def tk : Nat → List Value → Option (List Value)
  | 0, _ => some []
  | _ + 1, [] => none
  | s + 1, c :: cs => match tk s cs with
    | some l => some (c :: l)
    | none => none
def dr : Nat → List Value → List Value
  | 0, cs => cs
  | _ + 1, [] => []
  | k + 1, _ :: cs => dr k cs
def cut (cs : List Value) (off s : Nat) : Option (List Value) := tk s (dr off cs)
theorem dr_eq : ∀ (k : Nat) (cs : List Value), dr k cs = cs.drop k
  | 0, _ => rfl
  | _ + 1, [] => by simp [dr]
  | k + 1, _ :: cs => by simp [dr, dr_eq k cs]
theorem tk_eq : ∀ {s : Nat} {cs l : List Value}, tk s cs = some l → s ≤ cs.length ∧ l = cs.take s
  | 0, cs, l, h => by simp [tk] at h; simp [← h]
  | s + 1, [], l, h => by simp [tk] at h
  | s + 1, c :: cs, l, h => by
    simp only [tk] at h
    cases hs : tk s cs with
    | none => rw [hs] at h; cases h
    | some m =>
      rw [hs] at h; cases h
      obtain ⟨h1, h2⟩ := tk_eq hs
      exact ⟨by simpa using h1, by rw [h2]; rfl⟩
theorem tk_some {s : Nat} {cs : List Value} (h : s ≤ cs.length) : tk s cs = some (cs.take s) := by
  induction s generalizing cs with
  | zero => simp [tk]
  | succ s ih =>
    cases cs with
    | nil => simp at h
    | cons c cs => simp only [tk, ih (by simpa using h)]; rfl
theorem cut_eq {cs l : List Value} {off s : Nat} (h : cut cs off s = some l) : (s = 0 ∨ off + s ≤ cs.length) ∧ l = (cs.drop off).take s := by
  obtain ⟨h1, h2⟩ := tk_eq h
  rw [dr_eq] at h1 h2
  simp at h1
  exact ⟨by omega, h2⟩
theorem cut_some {cs : List Value} {off s : Nat} (h : off + s ≤ cs.length) : cut cs off s = some ((cs.drop off).take s) := by
  rw [cut, dr_eq, tk_some (by simp; omega)]

/-! ### The world's side -/
theorem cell_of {w : World} {b : Nat} {cs : List Value} {t : TypeId} {fz : Nat × Nat} (h : w.heap[b]? = some (.cells cs.toArray t fz)) (off : Nat) : w.cell? ⟨b, off, none⟩ = cs[off]? := by
  simp [World.cell?, h]
theorem setRow_kept (w : World) (b : Nat) (c : Array Value) : Kept [b] w (w.setRow b c) where
  os := rfl
  tape := rfl
  output := rfl
  size := by simp [World.setRow]
  same := fun i _ hn => by
    have : b ≠ i := fun e => hn (by simp [e])
    simp [World.setRow, Array.getElem?_modify, this]
  frz := fun a _ => by
    simp only [World.frozen?, World.setRow, Array.getElem?_modify]
    by_cases h : b = a.block
    · rw [if_pos h]
      cases hb : w.heap[a.block]? with
      | none => rfl
      | some o => cases o <;> rfl
    · rw [if_neg h]
theorem run_storeCells {P : Program} {w : World} {b off : Nat} {t : TypeId} {cs vs cs' : List Value} (h : w.heap[b]? = some (.cells cs.toArray t (0, 0))) (hs : SplL cs off vs cs') (h1 : vs.all Value.oneCell' = true) :
    ∃ w', (storeCells ⟨b, off, none⟩ vs).run P w = .ok () w' ∧ w'.heap[b]? = some (.cells cs'.toArray t (0, 0)) ∧ Kept [b] w w' := by
  obtain ⟨h2, h3⟩ := hs
  refine ⟨_, run_storeCells_at P b off t vs 0 cs.toArray w h (by simpa using h2) (by simpa using h1), ?_, setRow_kept _ _ _⟩
  rw [setRow_heap w b cs.toArray _ t _ h, h3]
  simp
theorem run_loadCells_sub {P : Program} {w : World} {b off s : Nat} {t : TypeId} {fz : Nat × Nat} {cs vs : List Value} (h : w.heap[b]? = some (.cells cs.toArray t fz)) (hv : cut cs off s = some vs) :
    (loadCells ⟨b, off, none⟩ s).run P w = .ok vs.toArray w := by
  obtain ⟨h1, h2⟩ := cut_eq hv
  have hl : vs.length = s := by
    rcases h1 with rfl | h1
    · simp [h2]
    · rw [h2]; simp; omega
  rw [← hl]
  refine run_loadCells_list w _ vs (fun j v hj => ?_)
  have hadd : (⟨b, off, none⟩ : Addr).add j = ⟨b, off + j, none⟩ := by unfold Addr.add; split <;> simp_all
  rw [hadd, cell_of h]
  have hjl : j < vs.length := (List.getElem?_eq_some_iff.1 hj).1
  rw [h2] at hj
  rw [List.getElem?_take_of_lt (by omega), List.getElem?_drop] at hj
  exact hj

def scal : TypeDesc → Bool
  | .struct _ => false
  | .array _ _ => false
  | _ => true

section
variable {P : Program} {r : Option Nat} {w0 : World} {B : List Nat} {n : Nat} {Q : Post} {e : Env} {ds : List Deferred} {L : Heap} [T : Tab P]

theorem run_isAgg {t : TypeId} {d : TypeDesc} (h : T.und t = some d) (w : World) : (isAgg t).run P w = .ok (!scal d) w := by
  simp only [isAgg, Sem.run_bind, run_und h, Result.andThen]
  cases d <;> rfl
theorem run_loadVar1 {t : TypeId} {d : TypeDesc} {w : World} {a : Addr} {v : Value} (h : T.und t = some d) (hs : scal d = true) (hc : w.cell? a = some v) : (loadVar t a).run P w = .ok v w := by
  simp only [loadVar, Sem.run_bind, run_isAgg h, Result.andThen, hs, Bool.not_true, Bool.false_eq_true, if_false, run_load, hc]
theorem run_loadVarN {t : TypeId} {d : TypeDesc} {w : World} {b off s by' : Nat} {z : Value} {tt : TypeId} {fz : Nat × Nat} {cs vs : List Value} (h : T.und t = some d) (hs : scal d = false) (hi : T.inf t = some (s, by', z))
    (hb : w.heap[b]? = some (.cells cs.toArray tt fz)) (hv : cut cs off s = some vs) : (loadVar t ⟨b, off, none⟩).run P w = .ok (.agg vs.toArray) w := by
  simp only [loadVar, Sem.run_bind, run_isAgg h, Result.andThen, hs, Bool.not_false, if_true, run_size hi, run_loadCells_sub hb hv, Sem.run_pure]
theorem run_storeVar {t : TypeId} {w : World} {b off s by' : Nat} {z v : Value} {tt : TypeId} {cs vs cs' : List Value} (hi : T.inf t = some (s, by', z))
    (hv : v.cells.toList = vs) (hl : vs.length = s) (h1 : vs.all Value.oneCell' = true) (hb : w.heap[b]? = some (.cells cs.toArray tt (0, 0))) (hp : SplL cs off vs cs') :
    ∃ w', (storeVar t ⟨b, off, none⟩ v).run P w = .ok () w' ∧ w'.heap[b]? = some (.cells cs'.toArray tt (0, 0)) ∧ Kept [b] w w' := by
  obtain ⟨w', h2, h3, h4⟩ := run_storeCells (P := P) hb hp h1
  refine ⟨w', ?_, h3, h4⟩
  have : v.cells.size = s := by rw [← hl, ← hv]; simp
  simp only [storeVar, Sem.run_bind, run_size hi, Result.andThen, this, ne_eq, not_true, if_false, hv, h2]

/-! ### Loads -/
theorem Quiet.ld {t ty : TypeId} {x : Operand} {d : TypeDesc} {b off : Nat} {tt : TypeId} {cs : List Value} {v : Value} (hx : ev e x = some (.pointer (some ⟨b, off, none⟩))) (ht : T.und t = some d) (hs : scal d = true)
    (hm : Ent.blk b cs tt ∈ L) (hv : cs[off]? = some v) : Quiet P r w0 B n ds L (.load t x) ty e v :=
  .run (by simp) fun ρ d pos af g w hρ ho _ => by
    have hb : w.heap[b]? = some (.cells cs.toArray tt (0, 0)) := ho.ok _ hm
    simp only [execOp, hρ x (by simp [Op.operands]) _ hx, Instr.loadAt, Instr.sureAddr, Sem.run_bind, Sem.run_pure, Result.andThen, run_loadVar1 ht hs ((cell_of hb off).trans hv)]
theorem Quiet.ldN {t ty : TypeId} {x : Operand} {d : TypeDesc} {b off s by' : Nat} {z : Value} {tt : TypeId} {cs vs : List Value} (hx : ev e x = some (.pointer (some ⟨b, off, none⟩))) (ht : T.und t = some d) (hs : scal d = false)
    (hi : T.inf t = some (s, by', z)) (hm : Ent.blk b cs tt ∈ L) (hv : cut cs off s = some vs) : Quiet P r w0 B n ds L (.load t x) ty e (.agg vs.toArray) :=
  .run (by simp) fun ρ d pos af g w hρ ho _ => by
    have hb : w.heap[b]? = some (.cells cs.toArray tt (0, 0)) := ho.ok _ hm
    simp only [execOp, hρ x (by simp [Op.operands]) _ hx, Instr.loadAt, Instr.sureAddr, Sem.run_bind, Sem.run_pure, Result.andThen, run_loadVarN ht hs hi hb hv]
/-- Of a block that is not owned, as it was at first. -/
theorem Quiet.ldR {t ty : TypeId} {x : Operand} {d : TypeDesc} {b off : Nat} {tt : TypeId} {fz : Nat × Nat} {cs : List Value} {v : Value} (hx : ev e x = some (.pointer (some ⟨b, off, none⟩))) (ht : T.und t = some d) (hs : scal d = true)
    (hw : w0.heap[b]? = some (.cells cs.toArray tt fz)) (hB : b ∉ B) (hv : cs[off]? = some v) : Quiet P r w0 B n ds L (.load t x) ty e v :=
  .run (by simp) fun ρ d pos af g w hρ ho hk => by
    have hb : w.heap[b]? = some (.cells cs.toArray tt fz) := (hk.same b (Array.getElem?_eq_some_iff.1 hw).1 hB).trans hw
    simp only [execOp, hρ x (by simp [Op.operands]) _ hx, Instr.loadAt, Instr.sureAddr, Sem.run_bind, Sem.run_pure, Result.andThen, run_loadVar1 ht hs ((cell_of hb off).trans hv)]
theorem Quiet.ldNR {t ty : TypeId} {x : Operand} {d : TypeDesc} {b off s by' : Nat} {z : Value} {tt : TypeId} {fz : Nat × Nat} {cs vs : List Value} (hx : ev e x = some (.pointer (some ⟨b, off, none⟩))) (ht : T.und t = some d) (hs : scal d = false)
    (hi : T.inf t = some (s, by', z)) (hw : w0.heap[b]? = some (.cells cs.toArray tt fz)) (hB : b ∉ B) (hv : cut cs off s = some vs) : Quiet P r w0 B n ds L (.load t x) ty e (.agg vs.toArray) :=
  .run (by simp) fun ρ d pos af g w hρ ho hk => by
    have hb : w.heap[b]? = some (.cells cs.toArray tt fz) := (hk.same b (Array.getElem?_eq_some_iff.1 hw).1 hB).trans hw
    simp only [execOp, hρ x (by simp [Op.operands]) _ hx, Instr.loadAt, Instr.sureAddr, Sem.run_bind, Sem.run_pure, Result.andThen, run_loadVarN ht hs hi hb hv]

/-! ### Stores -/
theorem XL.stS {ops : Array Oper} {rest : List Oper} {t ty : TypeId} {x y : Operand} {pos : String} {af : Array Edge} {b off s by' : Nat} {z v : Value} {tt : TypeId} {cs vs cs' : List Value} {L' : Heap}
    (hx : ev e x = some (.pointer (some ⟨b, off, none⟩))) (hy : ev e y = some v) (hi : T.inf t = some (s, by', z)) (hv : v.cells.toList = vs) (hl : vs.length = s) (h1 : vs.all Value.oneCell' = true)
    (hm : Ent.blk b cs tt ∈ L) (hp : SplL cs off vs cs') (hu : Upd L (.blk b cs tt) (.blk b cs' tt) L')
    (h : XL P r w0 B n ops rest Q e ds L') : XL P r w0 B n ops (⟨none, .store t x y, ty, pos, af, none⟩ :: rest) Q e ds L := by
  refine XL.unit (by simp) (fun a w hs => ?_) h
  have hb : w.heap[b]? = some (.cells cs.toArray tt (0, 0)) := hs.own.ok _ hu.mem
  obtain ⟨w', h2, h3, h4⟩ := run_storeVar (P := P) hi hv hl h1 hb hp
  refine ⟨w', ?_, hs.step (C := [b]) h4 (fun c hc => by simp at hc; subst hc; exact mem_ids.2 ⟨_, hu.mem, by simp [Ent.ids]⟩) (hu.owns hs.own rfl h3 h4) (fun c hc => .inl (by rw [hu.ids rfl] at hc; exact hc))⟩
  simp only [execOp, hs.eval hx, hs.eval hy, Instr.storeAt, Instr.sureAddr, Sem.run_bind, Sem.run_pure, Result.andThen, h2]

/-! ### New blocks -/
/-- an object that is not read-only -/
def cold : Obj → Prop
  | .cells _ _ fz => fz = (0, 0)
  | _ => True
omit T in
theorem run_newObj' (o : Obj) (w : World) : (newObj o).run P w = .ok w.heap.size { w with heap := w.heap.push o } := rfl
omit T in
theorem push_kept (w : World) (o : Obj) (ho : cold o) : Kept [] w { w with heap := w.heap.push o } :=
  ⟨rfl, rfl, rfl, by simp, fun b hb _ => by simp [Array.getElem?_push, Nat.ne_of_lt hb], fun a _ => by
    simp only [World.frozen?, Array.getElem?_push]
    by_cases h : a.block = w.heap.size
    · rw [if_pos h, h, Array.getElem?_eq_none (Nat.le_refl _)]
      cases o with
      | cells c t fz => obtain ⟨lo, hi⟩ := fz; have : (lo, hi) = ((0 : Nat), (0 : Nat)) := ho; cases this; simp
      | _ => rfl
    · rw [if_neg h]⟩
omit T in
theorem push_at (w : World) (o : Obj) : ({ w with heap := w.heap.push o } : World).heap[w.heap.size]? = some o := by simp
omit T in
/-- A new block beside what is owned. -/
theorem Sit.new {a : Act} {w : World} (hs : Sit w0 B n e ds L a w) (o : Obj) (ho : cold o) (x : Ent) (hx : x.ids = [w.heap.size]) (hok : x.ok { w with heap := w.heap.push o }) :
    Sit w0 B n e ds (x :: L) a { w with heap := w.heap.push o } := by
  refine hs.step (push_kept w o ho) (fun _ h => by cases h) ⟨?_, ?_⟩ ?_
  · intro y hy
    rcases List.mem_cons.1 hy with rfl | hy
    · exact hok
    · exact (hs.own.of_kept (push_kept w o ho) (fun _ _ h => by cases h)).ok y hy
  · simp only [X.ids, hx]
    refine List.nodup_append.2 ⟨by simp, hs.own.nd, fun b hb c hc hbc => ?_⟩
    simp at hb
    have := hs.own.live c hc
    omega
  · intro b hb
    simp only [X.ids, hx, List.mem_append, List.mem_singleton] at hb
    rcases hb with rfl | hb
    · exact .inr (Nat.le_refl _)
    · exact .inl hb

theorem XL.alloc {ops : Array Oper} {rest : List Oper} {d : Nat} {el ty : TypeId} {pos : String} {af : Array Edge} {s by' : Nat} {z : Value} {zs : List Value} (hi : T.inf el = some (s, by', z)) (hz : z.cells.toList = zs) (hd : Nat.blt d n = true)
    (h : ∀ b, XL P r w0 B n ops rest Q ((d, .pointer (some ⟨b, 0, none⟩)) :: e) ds (.blk b zs el :: L)) : XL P r w0 B n ops (⟨some d, .alloc el, ty, pos, af, none⟩ :: rest) Q e ds L := by
  refine XL.valX (φ := fun _ => True) (v := fun b => .pointer (some ⟨b, 0, none⟩)) (L' := fun b => .blk b zs el :: L) hd (by simp) (fun a w hs => ⟨w.heap.size, _, trivial, ?_, hs.new (.cells z.cells el (0, 0)) rfl (.blk w.heap.size zs el) rfl ?_⟩) (fun b _ => h b)
  · simp only [execOp, Instr.alloc, Sem.run_bind, run_zero hi, Result.andThen, newVar, newRow, run_newObj', Sem.run_pure]
  · show _ = _
    rw [push_at, ← hz, Array.toArray_toList]
omit T in
theorem XL.box {ops : Array Oper} {rest : List Oper} {d : Nat} {el ty : TypeId} {x : Operand} {pos : String} {af : Array Edge} {v : Value} {zs : List Value} (hx : ev e x = some v) (hz : v.cells.toList = zs) (hd : Nat.blt d n = true)
    (h : ∀ b, XL P r w0 B n ops rest Q ((d, .pointer (some ⟨b, 0, none⟩)) :: e) ds (.blk b zs el :: L)) : XL P r w0 B n ops (⟨some d, .box el x, ty, pos, af, none⟩ :: rest) Q e ds L := by
  refine XL.valX (φ := fun _ => True) (v := fun b => .pointer (some ⟨b, 0, none⟩)) (L' := fun b => .blk b zs el :: L) hd (by simp) (fun a w hs => ⟨w.heap.size, _, trivial, ?_, hs.new (.cells v.cells el (0, 0)) rfl (.blk w.heap.size zs el) rfl ?_⟩) (fun b _ => h b)
  · simp only [execOp, hs.eval hx, Instr.box, newVar, newRow, run_newObj', Sem.run_pure, Sem.run_bind, Result.andThen]
  · show _ = _
    rw [push_at, ← hz, Array.toArray_toList]

/-! ### Addresses -/
theorem Quiet.fldA {t ty : TypeId} {x : Operand} {fs : Array Field} {i : Nat} {f : Field} {b off s by' : Nat} {z : Value} (hx : ev e x = some (.pointer (some ⟨b, off, none⟩))) (ht : T.und t = some (.struct fs)) (hf : fs[i]? = some f)
    (hi : T.inf f.type = some (s + 1, by', z)) : Quiet P r w0 B n ds L (.fieldAddr t x i) ty e (.pointer (some ⟨b, off + f.offset, none⟩)) :=
  .run (by simp) fun ρ d pos af g w hρ ho _ => by
    have : (⟨b, off, none⟩ : Addr).add f.offset = ⟨b, off + f.offset, none⟩ := by unfold Addr.add; split <;> simp_all
    simp only [execOp, hρ x (by simp [Op.operands]) _ hx, Instr.fieldAt, Sem.run_bind, run_und ht, Result.andThen, hf, Instr.sureAddr, Sem.run_pure, fieldPlace, run_size hi, this]
    simp
omit T in
theorem add_none (b off k : Nat) : (⟨b, off, none⟩ : Addr).add k = ⟨b, off + k, none⟩ := by unfold Addr.add; split <;> simp_all
theorem Quiet.idxA {t ty el : TypeId} {x y : Operand} {k : IntKind} {b off len j s by' : Nat} {z : Value} (hx : ev e x = some (.pointer (some ⟨b, off, none⟩))) (hy : ev e y = some (.int k (j : Int))) (ht : T.und t = some (.array len el))
    (hi : T.inf el = some (s, by', z)) (hj : j < len) : Quiet P r w0 B n ds L (.indexAddr t x y) ty e (.pointer (some ⟨b, off + j * s, none⟩)) :=
  .run (by simp) fun ρ d pos af g w hρ ho _ => by
    have h1 : (0 : Int) ≤ (j : Int) ∧ (j : Int) < (len : Int) := by omega
    simp only [execOp, hρ x (by simp [Op.operands]) _ hx, hρ y (by simp [Op.operands]) _ hy, Instr.indexAt, asIntOf, Sem.run_bind, run_und ht, Result.andThen, Instr.sureAddr, Sem.run_pure, h1, and_self, if_true, run_size hi, add_none, Int.toNat_natCast]
theorem Quiet.idxL {t ty el : TypeId} {x y : Operand} {k : IntKind} {b off len cap j s by' : Nat} {z : Value} (hx : ev e x = some (.slice (some ⟨b, off, none⟩) len cap)) (hy : ev e y = some (.int k (j : Int))) (ht : T.und t = some (.slice el))
    (hi : T.inf el = some (s, by', z)) (hj : j < len) : Quiet P r w0 B n ds L (.indexAddr t x y) ty e (.pointer (some ⟨b, off + j * s, none⟩)) :=
  .run (by simp) fun ρ d pos af g w hρ ho _ => by
    have h1 : (0 : Int) ≤ (j : Int) ∧ (j : Int) < (len : Int) := by omega
    simp only [execOp, hρ x (by simp [Op.operands]) _ hx, hρ y (by simp [Op.operands]) _ hy, Instr.indexAt, asIntOf, Sem.run_bind, run_und ht, Result.andThen, Sem.run_pure, h1, and_self, if_true, run_size hi, add_none, Int.toNat_natCast]
/-- At the head of a row. -/
theorem Quiet.idxL0 {t ty el : TypeId} {x y : Operand} {k : IntKind} {b len cap j s by' : Nat} {z : Value} (hx : ev e x = some (.slice (some ⟨b, 0, none⟩) len cap)) (hy : ev e y = some (.int k (j : Int))) (ht : T.und t = some (.slice el))
    (hi : T.inf el = some (s, by', z)) (hj : j < len) : Quiet P r w0 B n ds L (.indexAddr t x y) ty e (.pointer (some ⟨b, j * s, none⟩)) := by
  have := Quiet.idxL (r := r) (w0 := w0) (B := B) (n := n) (ds := ds) (L := L) (ty := ty) hx hy ht hi hj
  rwa [Nat.zero_add] at this
/-- A part of a struct or an array that is a value. -/
theorem Quiet.fld {t ty : TypeId} {x : Operand} {fs : Array Field} {i : Nat} {f : Field} {d : TypeDesc} {cs : List Value} {v : Value} (hx : ev e x = some (.agg cs.toArray)) (ht : T.und t = some (.struct fs)) (hf : fs[i]? = some f)
    (hd : T.und f.type = some d) (hs : scal d = true) (hv : cs[f.offset]? = some v) : Quiet P r w0 B n ds L (.field t x i) ty e v :=
  .run (by simp) fun ρ d' pos af g w hρ ho _ => by
    have : cs.toArray[f.offset]? = some v := by simpa using hv
    simp only [execOp, hρ x (by simp [Op.operands]) _ hx, Instr.field, Sem.run_bind, run_und ht, Result.andThen, hf, asAgg, Sem.run_pure, part, run_isAgg hd, hs, Bool.not_true, Bool.false_eq_true, if_false, this]
theorem Quiet.fldN {t ty : TypeId} {x : Operand} {fs : Array Field} {i : Nat} {f : Field} {d : TypeDesc} {cs vs : List Value} {s by' : Nat} {z : Value} (hx : ev e x = some (.agg cs.toArray)) (ht : T.und t = some (.struct fs)) (hf : fs[i]? = some f)
    (hd : T.und f.type = some d) (hs : scal d = false) (hi : T.inf f.type = some (s, by', z)) (hv : cut cs f.offset s = some vs) : Quiet P r w0 B n ds L (.field t x i) ty e (.agg vs.toArray) :=
  .run (by simp) fun ρ d' pos af g w hρ ho _ => by
    have h2 : cs.toArray.extract f.offset (f.offset + s) = vs.toArray := by
      obtain ⟨_, h⟩ := cut_eq hv
      rw [h]; apply Array.ext'; simp [List.extract_eq_take_drop]
    simp only [execOp, hρ x (by simp [Op.operands]) _ hx, Instr.field, Sem.run_bind, run_und ht, Result.andThen, hf, asAgg, Sem.run_pure, part, run_isAgg hd, hs, Bool.not_false, if_true, run_size hi, h2]
theorem Quiet.idxV {t ty el : TypeId} {x y : Operand} {k : IntKind} {len j by' : Nat} {d : TypeDesc} {z v : Value} {cs : List Value} (hx : ev e x = some (.agg cs.toArray)) (hy : ev e y = some (.int k (j : Int))) (ht : T.und t = some (.array len el))
    (hd : T.und el = some d) (hs : scal d = true) (hi : T.inf el = some (1, by', z)) (hj : j < len) (hv : cs[j]? = some v) : Quiet P r w0 B n ds L (.index t x y) ty e v :=
  .run (by simp) fun ρ d' pos af g w hρ ho _ => by
    have h1 : (0 : Int) ≤ (j : Int) ∧ (j : Int) < (len : Int) := by omega
    have : cs.toArray[j]? = some v := by simpa using hv
    simp only [execOp, hρ x (by simp [Op.operands]) _ hx, hρ y (by simp [Op.operands]) _ hy, Instr.index, asIntOf, Sem.run_bind, run_und ht, Result.andThen, Sem.run_pure, h1, and_self, if_true, run_size hi, Int.toNat_natCast, Nat.mul_one, part, run_isAgg hd, hs, Bool.not_true, Bool.false_eq_true, if_false, this]
end
end Go.X
