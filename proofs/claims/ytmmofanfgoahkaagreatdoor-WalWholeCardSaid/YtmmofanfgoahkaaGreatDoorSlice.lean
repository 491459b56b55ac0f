/- Literals, slices, append, copy. -/
import Derived.Test.YtmmofanfgoahkaaGreatDoorDraw
import Derived.Laws.AppendOwn
namespace Go.X
open Go

section
variable {P : Program} {r : Option Nat} {w0 : World} {B : List Nat} {n : Nat} {Q : Post} {e : Env} {ds : List Deferred} {L : Heap}

theorem Quiet.to {op : Op} {ty : TypeId} {v v' : Value} (h : Quiet P r w0 B n ds L op ty e v) (hv : v = v') : Quiet P r w0 B n ds L op ty e v' := hv ▸ h

/-! ### An entry that moves on -/
theorem Upd.owns' {w w' : World} {L L' : Heap} {x y : Ent} (h : Upd L x y L') (ho : Owns w L) (hy : y.ok w') (hyn : y.ids.Nodup) (k : Kept x.ids w w') (hn : ∀ b ∈ y.ids, b ∈ x.ids ∨ w.heap.size ≤ b) : Owns w' L' ∧ ∀ b ∈ X.ids L', b ∈ X.ids L ∨ w.heap.size ≤ b := by
  have hnd := ho.nd
  have hok := ho.ok
  have hlive := ho.live
  clear ho
  induction h with
  | @here L0 x y =>
    simp only [X.ids] at hnd hlive ⊢
    have h1 := List.nodup_append.1 hnd
    refine ⟨⟨?_, ?_⟩, ?_⟩
    · intro z hz
      rcases List.mem_cons.1 hz with rfl | hz
      · exact hy
      · exact Ent.ok_of_same (hok z (.tail _ hz)) (fun b hb => k.same b (Ent.ok_live (hok z (.tail _ hz)) b hb) (fun hx => h1.2.2 b hx b (mem_ids.2 ⟨z, hz, hb⟩) rfl))
    · simp only [X.ids]
      refine List.nodup_append.2 ⟨hyn, h1.2.1, fun a ha b hb hab => ?_⟩
      subst hab
      rcases hn a ha with h2 | h2
      · exact h1.2.2 a h2 a hb rfl
      · exact absurd (hlive a (List.mem_append_right _ hb)) (Nat.not_lt.2 h2)
    · intro b hb
      rcases List.mem_append.1 hb with hb | hb
      · exact (hn b hb).imp (List.mem_append_left _) id
      · exact .inl (List.mem_append_right _ hb)
  | @there L0 L1 x y u hu ih =>
    simp only [X.ids] at hnd hlive ⊢
    have h1 := List.nodup_append.1 hnd
    obtain ⟨h2, h3⟩ := ih hy hyn k hn h1.2.1 (fun v hv => hok v (.tail _ hv)) (fun b hb => hlive b (List.mem_append_right _ hb))
    have hux : ∀ b ∈ u.ids, b ∉ x.ids := fun b hb hx => h1.2.2 b hb b (mem_ids.2 ⟨x, hu.mem, hx⟩) rfl
    refine ⟨⟨?_, ?_⟩, ?_⟩
    · intro z hz
      rcases List.mem_cons.1 hz with rfl | hz
      · exact Ent.ok_of_same (hok z (.head _)) (fun b hb => k.same b (Ent.ok_live (hok z (.head _)) b hb) (hux b hb))
      · exact h2.ok z hz
    · simp only [X.ids]
      refine List.nodup_append.2 ⟨h1.1, h2.nd, fun a ha b hb hab => ?_⟩
      subst hab
      rcases h3 a hb with h4 | h4
      · exact h1.2.2 a ha a h4 rfl
      · exact absurd (hlive a (List.mem_append_left _ ha)) (Nat.not_lt.2 h4)
    · intro b hb
      rcases List.mem_append.1 hb with hb | hb
      · exact .inl (List.mem_append_left _ hb)
      · exact (h3 b hb).imp (List.mem_append_right _) id

/-! ### Literals of structs and arrays -/
def spl (cs : List Value) (off : Nat) (vs : List Value) : Option (List Value) :=
  match off, cs, vs with
  | 0, cs, [] => some cs
  | 0, [], _ :: _ => none
  | 0, _ :: cs, v :: vs => match spl cs 0 vs with
    | some l => some (v :: l)
    | none => none
  | _ + 1, [], _ => none
  | k + 1, c :: cs, vs => match spl cs k vs with
    | some l => some (c :: l)
    | none => none
theorem spl_ok : ∀ {off : Nat} {cs vs cs' : List Value}, spl cs off vs = some cs' → SplL cs off vs cs'
  | 0, cs, [], cs', h => by simp [spl] at h; subst h; exact .nil
  | 0, [], _ :: _, cs', h => by simp [spl] at h
  | 0, c :: cs, v :: vs, cs', h => by
    simp only [spl] at h
    cases hs : spl cs 0 vs with
    | none => rw [hs] at h; cases h
    | some l => rw [hs] at h; cases h; exact (spl_ok hs).zero
  | k + 1, [], vs, cs', h => by simp [spl] at h
  | k + 1, c :: cs, vs, cs', h => by
    simp only [spl] at h
    cases hs : spl cs k vs with
    | none => rw [hs] at h; cases h
    | some l => rw [hs] at h; cases h; exact (spl_ok hs).succ
def fillL (place : Nat → Option (Nat × Nat)) (cs : List Value) : List (Nat × Value) → Option (List Value)
  | [] => some cs
  | (i, v) :: rest => match place i with
    | none => none
    | some (off, size) => match Nat.beq v.cells.toList.length size with
      | false => none
      | true => match spl cs off v.cells.toList with
        | none => none
        | some cs' => fillL place cs' rest
theorem fold_set : ∀ (vs : List Value) (off j : Nat) (cs : Array Value), off + j + vs.length ≤ cs.size →
    ((vs.zipIdx j).foldl (fun cs (c, i) => cs.setIfInBounds (off + i) c) cs).toList = cs.toList.take (off + j) ++ vs ++ cs.toList.drop (off + j + vs.length)
  | [], off, j, cs, h => by simp
  | v :: vs, off, j, cs, h => by
    simp only [List.zipIdx_cons, List.foldl_cons]
    rw [fold_set vs off (j + 1) _ (by simp at h ⊢; omega)]
    have h1 : off + j < cs.toList.length := by simp at h; simp; omega
    simp only [Array.toList_setIfInBounds, List.length_cons]
    rw [show off + (j + 1) = off + j + 1 by omega, List.take_set, List.drop_set]
    rw [if_pos (show off + j < off + j + 1 + vs.length by omega)]
    have h2 : (cs.toList.take (off + j + 1)).set (off + j) v = cs.toList.take (off + j) ++ [v] := by
      rw [List.take_succ_eq_append_getElem h1, List.set_append_right _ _ (by simp; omega)]
      have : off + j - (cs.toList.take (off + j)).length = 0 := by simp at h1 ⊢; omega
      rw [this]; rfl
    rw [h2]
    simp only [List.append_assoc, List.cons_append, List.nil_append]
    rw [show off + j + 1 + vs.length = off + j + (vs.length + 1) by omega]
theorem fill_of {place : Nat → Option (Nat × Nat)} : ∀ {ps : List (Nat × Value)} {cs cs' : List Value}, fillL place cs ps = some cs' → Instr.fill place cs.toArray ps = some cs'.toArray
  | [], cs, cs', h => by simp [fillL] at h; simp [Instr.fill, h]
  | (i, v) :: rest, cs, cs', h => by
    simp only [fillL] at h
    simp only [Instr.fill]
    cases hp : place i with
    | none => rw [hp] at h; cases h
    | some q =>
      obtain ⟨off, size⟩ := q
      rw [hp] at h
      simp only at h
      cases hb : Nat.beq v.cells.toList.length size with
      | false => rw [hb] at h; cases h
      | true =>
        rw [hb] at h
        have hsz := Nat.eq_of_beq_eq_true hb
        cases hs : spl cs off v.cells.toList with
        | none => rw [hs] at h; cases h
        | some cs1 =>
          rw [hs] at h
          obtain ⟨h1, h2⟩ := spl_ok hs
          have hle : ¬ (v.cells.size ≠ size ∨ off + v.cells.size > cs.toArray.size) := by simp at hsz h1 ⊢; omega
          have hd : (decide (v.cells.size ≠ size) || decide (off + v.cells.size > cs.toArray.size)) = false := by simpa using hle
          simp only [hd, Bool.false_eq_true, if_false]
          have : (v.cells.zipIdx.foldl (fun cs (c, j) => cs.setIfInBounds (off + j) c) cs.toArray) = cs1.toArray := by
            rw [← Array.toList_inj, ← Array.foldl_toList, Array.toList_zipIdx]
            have := fold_set v.cells.toList off 0 cs.toArray (by simpa using h1)
            simp only [Nat.add_zero] at this
            rw [this, h2]
          rw [this]
          exact fill_of h

def evsP (e : Env) : List (Nat × Operand) → Option (List (Nat × Value))
  | [] => some []
  | (i, x) :: xs => match ev e x with
    | some v => match evsP e xs with
      | some vs => some ((i, v) :: vs)
      | none => none
    | none => none
theorem map_evsP {ρ : Operand → Value} : ∀ {xs : List (Nat × Operand)} {vs : List (Nat × Value)}, evsP e xs = some vs → (∀ x ∈ xs, ∀ u, ev e x.2 = some u → ρ x.2 = u) → (xs.map fun p => (p.1, ρ p.2)) = vs := by
  intro xs
  induction xs with
  | nil => intro vs hv _; simpa [evsP] using hv
  | cons x xs ih =>
    intro vs hv hρ
    obtain ⟨i, x⟩ := x
    simp only [evsP] at hv
    cases hx : ev e x with
    | none => rw [hx] at hv; cases hv
    | some v =>
      rw [hx] at hv
      cases hxs : evsP e xs with
      | none => rw [hxs] at hv; cases hv
      | some us =>
        rw [hxs] at hv; cases hv
        simp [hρ (i, x) (by simp) v hx, ih hxs (fun y hy => hρ y (by simp [hy]))]
/-- the places of a struct's fields -/
def placesOf [T : Tab P] : List Field → Option (List (Nat × Nat))
  | [] => some []
  | f :: fs => match T.inf f.type with
    | some (s, _, _) => match placesOf fs with
      | some l => some ((f.offset, s) :: l)
      | none => none
    | none => none
theorem run_mapM_list {α β : Type} {w : World} {f : α → Sem β} {g : List β} : ∀ {xs : List α}, (∀ (i : Nat) x, xs[i]? = some x → ∃ y, g[i]? = some y ∧ (f x).run P w = .ok y w) → g.length = xs.length → (xs.mapM f).run P w = .ok g w := by
  intro xs
  induction xs generalizing g with
  | nil => intro _ hl; have : g = [] := List.eq_nil_of_length_eq_zero (by simpa using hl); subst this; simp
  | cons x xs ih =>
    intro h hl
    cases g with
    | nil => simp at hl
    | cons y g =>
      obtain ⟨y', hy, hr⟩ := h 0 x (by simp)
      simp at hy; subst hy
      have := ih (g := g) (fun i x hx => by have := h (i + 1) x (by simpa using hx); simpa using this) (by simpa using hl)
      rw [List.mapM_cons, Sem.run_bind, hr]
      simp [Result.andThen, this]
theorem placesOf_get [T : Tab P] : ∀ {fs : List Field} {l : List (Nat × Nat)}, placesOf (P := P) fs = some l → l.length = fs.length ∧ ∀ (i : Nat) f, fs[i]? = some f → ∃ s b z, T.inf f.type = some (s, b, z) ∧ l[i]? = some (f.offset, s)
  | [], l, h => by simp [placesOf] at h; subst h; simp
  | f :: fs, l, h => by
    simp only [placesOf] at h
    cases hi : T.inf f.type with
    | none => rw [hi] at h; cases h
    | some q =>
      obtain ⟨s, b, z⟩ := q
      rw [hi] at h
      cases hp : placesOf (P := P) fs with
      | none => rw [hp] at h; cases h
      | some l' =>
        rw [hp] at h; cases h
        obtain ⟨h1, h2⟩ := placesOf_get hp
        refine ⟨by simp [h1], fun i f' hf => ?_⟩
        cases i with
        | zero => simp at hf; subst hf; exact ⟨s, b, z, hi, rfl⟩
        | succ i => simpa using h2 i f' (by simpa using hf)
variable [T : Tab P]
theorem Quiet.buildS {t ty : TypeId} {ps : Array (Nat × Operand)} {fs : Array Field} {s b : Nat} {z : Value} {pl : List (Nat × Nat)} {vs : List (Nat × Value)} {cs : List Value} (hv : evsP e ps.toList = some vs) (ht : T.und t = some (.struct fs))
    (hi : T.inf t = some (s, b, z)) (hp : placesOf (P := P) fs.toList = some pl) (hc : fillL (fun i => pl[i]?) z.cells.toList vs = some cs) : Quiet P r w0 B n ds L (.build t ps) ty e (.agg cs.toArray) := by
  refine .run (by simp) fun ρ d pos af g w hρ _ _ => ?_
  have e1 : (ps.map fun (i, x) => (i, ρ x)).toList = vs := by
    rw [Array.toList_map]
    exact map_evsP hv (fun x hx u hu => hρ x.2 (by simp only [Op.operands, List.mem_toArray, List.mem_map]; exact ⟨x, hx, rfl⟩) u hu)
  obtain ⟨h1, h2⟩ := placesOf_get hp
  have hm : (fs.mapM fun f => (do pure (f.offset, ← sizeOf f.type) : Sem (Nat × Nat))).run P w = .ok pl.toArray w := by
    rw [Array.mapM_eq_mapM_toList, Sem.run_map]
    have hl := run_mapM_list (P := P) (w := w) (f := fun f : Field => (do pure (f.offset, ← sizeOf f.type) : Sem (Nat × Nat))) (g := pl) (xs := fs.toList) (fun i f hf => by
      obtain ⟨s', b', z', h3, h4⟩ := h2 i f hf
      exact ⟨_, h4, by simp only [Sem.run_bind, run_size h3, Result.andThen, Sem.run_pure]⟩) h1
    rw [hl]; rfl
  have hf : Instr.fill (fun i => pl.toArray[i]?) z.cells vs = some cs.toArray := by
    have := fill_of hc
    simpa using this
  simp only [execOp, Instr.build, Sem.run_bind, run_zero hi, run_und ht, Result.andThen, hm, e1, hf, Sem.run_pure]
theorem Quiet.buildA {t ty el : TypeId} {ps : Array (Nat × Operand)} {len s b s' b' : Nat} {z z' : Value} {vs : List (Nat × Value)} {cs : List Value} (hv : evsP e ps.toList = some vs) (ht : T.und t = some (.array len el))
    (hi : T.inf t = some (s, b, z)) (hi' : T.inf el = some (s', b', z')) (hc : fillL (fun i => some (i * s', s')) z.cells.toList vs = some cs) : Quiet P r w0 B n ds L (.build t ps) ty e (.agg cs.toArray) := by
  refine .run (by simp) fun ρ d pos af g w hρ _ _ => ?_
  have e1 : (ps.map fun (i, x) => (i, ρ x)).toList = vs := by
    rw [Array.toList_map]
    exact map_evsP hv (fun x hx u hu => hρ x.2 (by simp only [Op.operands, List.mem_toArray, List.mem_map]; exact ⟨x, hx, rfl⟩) u hu)
  have hf : Instr.fill (fun i => some (i * s', s')) z.cells vs = some cs.toArray := by
    have := fill_of hc
    simpa using this
  simp only [execOp, Instr.build, Sem.run_bind, run_zero hi, run_und ht, run_size hi', Result.andThen, e1, hf, Sem.run_pure]
/-- A store into a row that is written out. -/
theorem XL.st {ops : Array Oper} {rest : List Oper} {t ty : TypeId} {x y : Operand} {pos : String} {af : Array Edge} {b off s by' : Nat} {z v : Value} {tt : TypeId} {cs cs' : List Value} {L' : Heap}
    (hx : ev e x = some (.pointer (some ⟨b, off, none⟩))) (hy : ev e y = some v) (hi : T.inf t = some (s, by', z)) (hl : v.cells.toList.length = s) (h1 : v.cells.toList.all Value.oneCell' = true)
    (hm : Ent.blk b cs tt ∈ L) (hp : spl cs off v.cells.toList = some cs') (hu : Upd L (.blk b cs tt) (.blk b cs' tt) L')
    (h : XL P r w0 B n ops rest Q e ds L') : XL P r w0 B n ops (⟨none, .store t x y, ty, pos, af, none⟩ :: rest) Q e ds L :=
  .stS hx hy hi rfl hl h1 hm (spl_ok hp) hu h
def p2L : List (Option Int) := [some 1, some 2, some 4, some 8, some 16, some 32, some 64, some 128, some 256, some 512, some 1024, some 2048, some 4096, some 8192, some 16384, some 32768, some 65536, some 131072, some 262144, some 524288, some 1048576, some 2097152, some 4194304, some 8388608, some 16777216, some 33554432, some 67108864, some 134217728, some 268435456, some 536870912, some 1073741824, some 2147483648, some 4294967296, some 8589934592, some 17179869184, some 34359738368, some 68719476736, some 137438953472, some 274877906944, some 549755813888, some 1099511627776, some 2199023255552, some 4398046511104, some 8796093022208, some 17592186044416, some 35184372088832, some 70368744177664, some 140737488355328, some 281474976710656, some 562949953421312, some 1125899906842624, some 2251799813685248, some 4503599627370496, some 9007199254740992, some 18014398509481984, some 36028797018963968, some 72057594037927936, some 144115188075855872, some 288230376151711744, some 576460752303423488, some 1152921504606846976, some 2305843009213693952, some 4611686018427387904, some 9223372036854775808, some 18446744073709551616]
def p2 : List (Option Int) → Nat → Option Int
  | [], _ => none
  | o :: _, 0 => o
  | _ :: l, k + 1 => p2 l k
omit T in
theorem p2_ok {k : Nat} {p : Int} (h : p2 p2L k = some p) : (2 : Int) ^ k = p := by
  have : ∀ (l : List (Option Int)) (b k : Nat), (∀ i, i < l.length → l[i]? = some (some ((2 : Int) ^ (b + i)))) → p2 l k = some p → (2 : Int) ^ (b + k) = p := by
    intro l
    induction l with
    | nil => intro b k _ h; simp [p2] at h
    | cons o l ih =>
      intro b k hl h
      cases k with
      | zero => have := hl 0 (by simp); simp at this; simp only [p2] at h; rw [this] at h; simpa using h
      | succ k =>
        have := ih (b + 1) k (fun i hi => by have := hl (i + 1) (by simpa using hi); rw [show b + 1 + i = b + (i + 1) by omega]; simpa using this) h
        rwa [show b + 1 + k = b + (k + 1) by omega] at this
  have := this p2L 0 k (by decide) h
  simpa using this
omit T in
/-- shifts by a number that is written out -/
theorem Quiet.shrC {t t' ty : TypeId} {x y : Operand} {k k' : IntKind} {a b p : Int} (hx : ev e x = some (.int k a)) (hy : ev e y = some (.int k' b)) (h0 : 0 ≤ b) (hp : p2 p2L (min b.toNat k.bits) = some p) :
    Quiet P r w0 B n ds L (.binOp .shr t x y t') ty e (.int k (a / p)) :=
  (Quiet.shr hx hy h0).to (by rw [shrOp, p2_ok hp, Int.fdiv_eq_ediv_of_nonneg]; rw [← p2_ok hp]; exact Int.pow_nonneg (by decide))
omit T in
theorem Quiet.shlC {t t' ty : TypeId} {x y : Operand} {k k' : IntKind} {a b p : Int} (hx : ev e x = some (.int k a)) (hy : ev e y = some (.int k' b)) (h0 : 0 ≤ b) (hp : p2 p2L (min b.toNat k.bits) = some p) (hr : inR k (a * p)) :
    Quiet P r w0 B n ds L (.binOp .shl t x y t') ty e (.int k (a * p)) :=
  (Quiet.shl hx hy h0).to (by rw [shlOp, p2_ok hp, wrap_in hr])
omit T in
theorem Quiet.shlW {t t' ty : TypeId} {x y : Operand} {k k' : IntKind} {a b p : Int} (hx : ev e x = some (.int k a)) (hy : ev e y = some (.int k' b)) (h0 : 0 ≤ b) (hp : p2 p2L (min b.toNat k.bits) = some p) :
    Quiet P r w0 B n ds L (.binOp .shl t x y t') ty e (.int k (k.wrap (a * p))) :=
  (Quiet.shl hx hy h0).to (by rw [shlOp, p2_ok hp])
/-! ### Slices of slices and of arrays -/
omit T in
theorem addr_add (b off k : Nat) (c : Bool) (_ : c = true → k = 0) : (if c = true then some (⟨b, off, none⟩ : Addr) else some ((⟨b, off, none⟩ : Addr).add k)) = some ⟨b, off + k, none⟩ := by
  cases c
  · simp [add_none]
  · rename_i h; simp [h rfl]
/-- a slice of a slice; where the cut begins at the end of the room, the address stays -/
theorem Quiet.cutL {t ty el : TypeId} {x lo hi : Operand} {k k' : IntKind} {b off m c l h s by' : Nat} {z : Value} (hx : ev e x = some (.slice (some ⟨b, off, none⟩) m c)) (hl : ev e lo = some (.int k (l : Int))) (hh : ev e hi = some (.int k' (h : Int)))
    (ht : T.und t = some (.slice el)) (hi' : T.inf el = some (s, by', z)) (h1 : l ≤ h) (h2 : h ≤ c) (h3 : l < c) : Quiet P r w0 B n ds L (.slice t x (some lo) (some hi) none) ty e (.slice (some ⟨b, off + l * s, none⟩) (h - l) (c - l)) :=
  .run (by simp) fun ρ d pos af g w hρ _ _ => by
    have hne : ¬ c = l := by omega
    simp only [execOp, hρ x (by simp [Op.operands]) _ hx, hρ lo (by simp [Op.operands]) _ hl, hρ hi (by simp [Op.operands]) _ hh, Option.map, Instr.sliceAt, Sem.run_bind, run_und ht, Result.andThen, Instr.slice,
      Instr.sliceBounds, Sem.run_pure, Option.isSome]
    simp only [run_bound h2, run_bound h1, Bool.false_eq_true, if_false, run_size hi', if_neg hne, add_none, if_true]
theorem Quiet.cutLl {t ty el : TypeId} {x lo : Operand} {k : IntKind} {b off m c l s by' : Nat} {z : Value} (hx : ev e x = some (.slice (some ⟨b, off, none⟩) m c)) (hl : ev e lo = some (.int k (l : Int)))
    (ht : T.und t = some (.slice el)) (hi' : T.inf el = some (s, by', z)) (h1 : l ≤ m) (h3 : l < c) : Quiet P r w0 B n ds L (.slice t x (some lo) none none) ty e (.slice (some ⟨b, off + l * s, none⟩) (m - l) (c - l)) :=
  .run (by simp) fun ρ d pos af g w hρ _ _ => by
    have hne : ¬ c = l := by omega
    simp only [execOp, hρ x (by simp [Op.operands]) _ hx, hρ lo (by simp [Op.operands]) _ hl, Option.map, Instr.sliceAt, Sem.run_bind, run_und ht, Result.andThen, Instr.slice,
      Instr.sliceBounds, Sem.run_pure, Option.isSome]
    simp only [run_bound h1, Bool.false_eq_true, if_false, run_size hi', if_neg hne, add_none]
theorem Quiet.cutLh {t ty el : TypeId} {x hi : Operand} {k : IntKind} {ao : Option Addr} {m c h s by' : Nat} {z : Value} (hx : ev e x = some (.slice ao m c)) (hh : ev e hi = some (.int k (h : Int)))
    (ht : T.und t = some (.slice el)) (hi' : T.inf el = some (s, by', z)) (h1 : h ≤ c) : Quiet P r w0 B n ds L (.slice t x none (some hi) none) ty e (.slice ao h c) :=
  .run (by simp) fun ρ d pos af g w hρ _ _ => by
    simp only [execOp, hρ x (by simp [Op.operands]) _ hx, hρ hi (by simp [Op.operands]) _ hh, Option.map, Instr.sliceAt, Sem.run_bind, run_und ht, Result.andThen, Instr.slice,
      Instr.sliceBounds, Sem.run_pure, Option.isSome]
    simp only [run_bound h1, run_size hi', Nat.sub_zero, Nat.zero_mul]
    cases ao with
    | none => simp
    | some a => simp [Addr.add]
/-- the whole of an array as a slice -/
theorem Quiet.cutA {t ty el : TypeId} {x : Operand} {b off len s by' : Nat} {z : Value} (hx : ev e x = some (.pointer (some ⟨b, off, none⟩))) (ht : T.und t = some (.array len el)) (hi' : T.inf el = some (s, by', z)) :
    Quiet P r w0 B n ds L (.slice t x none none none) ty e (.slice (some ⟨b, off, none⟩) len len) :=
  .run (by simp) fun ρ d pos af g w hρ _ _ => by
    simp only [execOp, hρ x (by simp [Op.operands]) _ hx, Option.map, Instr.sliceAt, Sem.run_bind, run_und ht, Result.andThen, Instr.sureAddr,
      Instr.sliceBounds, Sem.run_pure]
    simp only [run_size hi', Nat.sub_zero, Nat.zero_mul, add_none, Nat.add_zero]
    simp
/-! ### A place that is told as one more -/
theorem Quiet.cutS01 {t ty : TypeId} {x lo hi : Operand} {k k' : IntKind} {a : List UInt8} {l h : Nat} (hx : ev e x = some (str a)) (hl : ev e lo = some (.int k (l : Int))) (hh : ev e hi = some (.int k' ((h : Int) + 1)))
    (ht : T.und t = some .string) (h1 : l ≤ h + 1) (h2 : h + 1 ≤ a.length) : Quiet P r w0 B n ds L (.slice t x (some lo) (some hi) none) ty e (str ((a.take (h + 1)).drop l)) := .cutS hx hl hh ht h1 h2
theorem Quiet.cutS10 {t ty : TypeId} {x lo hi : Operand} {k k' : IntKind} {a : List UInt8} {l h : Nat} (hx : ev e x = some (str a)) (hl : ev e lo = some (.int k ((l : Int) + 1))) (hh : ev e hi = some (.int k' (h : Int)))
    (ht : T.und t = some .string) (h1 : l + 1 ≤ h) (h2 : h ≤ a.length) : Quiet P r w0 B n ds L (.slice t x (some lo) (some hi) none) ty e (str ((a.take h).drop (l + 1))) := .cutS hx hl hh ht h1 h2
theorem Quiet.cutSl1 {t ty : TypeId} {x lo : Operand} {k : IntKind} {a : List UInt8} {l : Nat} (hx : ev e x = some (str a)) (hl : ev e lo = some (.int k ((l : Int) + 1)))
    (ht : T.und t = some .string) (h1 : l + 1 ≤ a.length) : Quiet P r w0 B n ds L (.slice t x (some lo) none none) ty e (str (a.drop (l + 1))) := .cutSl hx hl ht h1
theorem Quiet.cutSh1 {t ty : TypeId} {x hi : Operand} {k : IntKind} {a : List UInt8} {h : Nat} (hx : ev e x = some (str a)) (hh : ev e hi = some (.int k ((h : Int) + 1)))
    (ht : T.und t = some .string) (h1 : h + 1 ≤ a.length) : Quiet P r w0 B n ds L (.slice t x none (some hi) none) ty e (str (a.take (h + 1))) := .cutSh hx hh ht h1
/-! ### Guards that say no -/
omit T in
theorem XL.guardNb {ops : Array Oper} {rest : List Oper} {d : Nat} {op : Op} {ty : TypeId} {pos : String} {af : Array Edge} {j s : Nat} {want b : Bool} (hd : Nat.blt d n = true)
    (hj : (ops[j]?).bind (·.dst) = some s) (hb : get e s = some (.bool b)) (hw : b = !want)
    (h : XL P r w0 B n ops rest Q ((d, undef) :: e) ds L) : XL P r w0 B n ops (⟨some d, op, ty, pos, af, some (j, want)⟩ :: rest) Q e ds L :=
  .guardN hd hj hb (by subst hw; cases want <;> rfl) h
omit T in
theorem XD.qNb {S : Soft} {C : Option Heap} {ops : Array Oper} {rest : List Oper} {d : Nat} {op : Op} {ty : TypeId} {pos : String} {af : Array Edge} {j s : Nat} {want b : Bool}
    (hj : (ops[j]?).bind (·.dst) = some s) (hb : get e s = some (.bool b)) (hw : b = !want) (hd : Nat.blt d n = true)
    (h : XD P r w0 B n ops rest Q ((d, undef) :: e) ds L S C) (hS : offS S d = true := by rfl) : XD P r w0 B n ops (⟨some d, op, ty, pos, af, some (j, want)⟩ :: rest) Q e ds L S C :=
  .qN hj hb (by subst hw; cases want <;> rfl) hd h hS
end
end Go.X
