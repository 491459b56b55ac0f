/- copy; arrays that are compared; cuts of arrays. -/
import Derived.Test.YtmmofanfgoahkaaDoorMore2
import Derived.ChangeKeysEq
namespace Go.X
open Go
section
variable {P : Program} {r : Option Nat} {w0 : World} {B : List Nat} {n : Nat} {Q : Post} {e : Env} {ds : List Deferred} {L : Heap} [T : Tab P]
theorem run_copy {t tx ty el : TypeId} {k by' b off l c m : Nat} {z x : Value} {cs cs' news : List Value} {tt : TypeId} {w : World} (ht : T.und t = some (.slice el)) (hi : T.inf el = some (k, by', z))
    (hs : Src P k tx x m news w) (hle : m ≤ l) (hb : w.heap[b]? = some (.cells cs.toArray tt (0, 0))) (hp : SplL cs off news cs') :
    ∃ w', (Builtin.copy_ #[t, tx] ty #[.slice (some ⟨b, off, none⟩) l c, x]).run P w = .ok (.int .i64 (m : Int)) w' ∧ w'.heap[b]? = some (.cells cs'.toArray tt (0, 0)) ∧ Kept [b] w w' := by
  have hu := T.hund _ _ ht
  obtain ⟨i, hi1, hi2, hi3, hi4⟩ := T.hinf el k by' z hi
  obtain ⟨w', hr, hh, hkp⟩ := run_storeCells (P := P) hb hp (by simpa using hs.one)
  refine ⟨w', ?_, hh, hkp⟩
  have hm : Nat.min m l = m := Nat.min_eq_left hle
  have hc : (Builtin.firstCells i.size m x).run P w = .ok news.toArray w := by rw [hi2]; exact hs.cells
  simp [Builtin.copy_, run_underlying hu, sizeOf, typeInfo, hi1, hs.len, hm, hc, hr, goInt]
theorem XL.copy {ops : Array Oper} {rest : List Oper} {d : Nat} {s x : Operand} {t tx ty el : TypeId} {pos : String} {af : Array Edge} {k by' m b off l c : Nat} {z u : Value} {tt : TypeId} {cs cs' news : List Value} {L' : Heap}
    (hs : ev e s = some (.slice (some ⟨b, off, none⟩) l c)) (hx : ev e x = some u) (ht : T.und t = some (.slice el)) (hi : T.inf el = some (k, by', z))
    (hm : Ent.blk b cs tt ∈ L) (hsrc : ∀ w, Owns w L → Kept B w0 w → Src P k tx u m news w) (hle : m ≤ l) (hp : SplL cs off news cs')
    (hu : Upd L (.blk b cs tt) (.blk b cs' tt) L') (hd : Nat.blt d n = true)
    (h : XL P r w0 B n ops rest Q ((d, .int .i64 (m : Int)) :: e) ds L') : XL P r w0 B n ops (⟨some d, .call ⟨.builtin .copy, #[s, x], #[t, tx]⟩, ty, pos, af, none⟩ :: rest) Q e ds L := by
  refine XL.valX (φ := fun _ : Unit => True) (v := fun _ => .int .i64 (m : Int)) (L' := fun _ => L') hd (by simp) (fun a w hs' => ?_) (fun _ _ => h)
  obtain ⟨w', hrun, hh, hkp⟩ := run_copy (ty := ty) (c := c) ht hi (hsrc w hs'.own hs'.kept) hle (hs'.own.ok _ hm) hp
  refine ⟨(), w', trivial, ?_, hs'.step hkp (fun b' hb' => mem_ids.2 ⟨_, hm, by simpa [Ent.ids] using hb'⟩) (hu.owns hs'.own rfl hh hkp) (fun b' hb' => .inl (by rw [hu.ids rfl] at hb'; exact hb'))⟩
  exact run_builtin (vs := [.slice (some ⟨b, off, none⟩) l c, u]) (by simp [hs'.eval hs, hs'.eval hx]) (fun consts => blt_run rfl hrun)
theorem src_str {tx : TypeId} {l : List UInt8} {w : World} (ht : T.und tx = some .string) : Src P 1 tx (str l) l.length (bcells l) w := by
  have h := Src.ofString w (T.hund _ _ ht) ⟨l.toArray⟩
  have e1 : (ByteArray.mk l.toArray).size = l.length := by show l.toArray.size = _; simp
  have e2 : byteCells ⟨l.toArray⟩ = bcells l := rfl
  rw [e1, e2] at h
  exact h
theorem Quiet.cutAh {t ty el : TypeId} {x hi : Operand} {kk : IntKind} {b off len h s by' : Nat} {z : Value} (hx : ev e x = some (.pointer (some ⟨b, off, none⟩))) (hh : ev e hi = some (.int kk (h : Int))) (ht : T.und t = some (.array len el)) (hi' : T.inf el = some (s, by', z)) (hle : h ≤ len) :
    Quiet P r w0 B n ds L (.slice t x none (some hi) none) ty e (.slice (some ⟨b, off, none⟩) h len) :=
  .run (by simp) fun ρ d pos af g w hρ _ _ => by
    simp only [execOp, hρ x (by simp [Op.operands]) _ hx, hρ hi (by simp [Op.operands]) _ hh, Option.map, Instr.sliceAt, Sem.run_bind, run_und ht, Result.andThen, Instr.sureAddr,
      Instr.sliceBounds, Sem.run_pure, run_bound hle]
    simp only [run_size hi', Nat.sub_zero, Nat.zero_mul, add_none, Nat.add_zero]
    simp
/-! ### Arrays of integers, compared -/
theorem run_part1 {el : TypeId} {d : TypeDesc} {cs : List Value} {i : Nat} {v : Value} (hd : T.und el = some d) (hs : scal d = true) (hv : cs[i]? = some v) (w : World) : (part el cs.toArray i).run P w = .ok v w := by
  have : cs.toArray[i]? = some v := by simpa using hv
  simp only [part, Sem.run_bind, run_isAgg hd, Result.andThen, hs, Bool.not_true, Bool.false_eq_true, if_false, this, Sem.run_pure]
theorem run_eqItems {el : TypeId} {k : IntKind} (hd : T.und el = some (.int k)) (q : Nat) (xs ys : List Int) (w : World) : ∀ m i, i + m = xs.length → i + m = ys.length →
    (Op.eqItems (q + 1) el 1 (xs.map (Value.int k)).toArray (ys.map (Value.int k)).toArray (List.range' i m)).run P w = .ok (decide (xs.drop i = ys.drop i)) w
  | 0, i, hx, hy => by
    rw [List.drop_of_length_le (by omega), List.drop_of_length_le (by omega)]
    simp [Op.eqItems]
  | m + 1, i, hx, hy => by
    obtain ⟨a, ha⟩ : ∃ a, xs[i]? = some a := ⟨_, List.getElem?_eq_getElem (by omega)⟩
    obtain ⟨b, hb⟩ : ∃ b, ys[i]? = some b := ⟨_, List.getElem?_eq_getElem (by omega)⟩
    have ih := run_eqItems hd q xs ys w m (i + 1) (by omega) (by omega)
    have e1 : xs.drop i = a :: xs.drop (i + 1) := by rw [List.drop_eq_getElem_cons (by omega)]; rw [(List.getElem?_eq_some_iff.1 ha).2]
    have e2 : ys.drop i = b :: ys.drop (i + 1) := by rw [List.drop_eq_getElem_cons (by omega)]; rw [(List.getElem?_eq_some_iff.1 hb).2]
    have p1 := run_part1 (P := P) (cs := xs.map (Value.int k)) (i := i * 1) (v := .int k a) hd rfl (by simp [ha]) w
    have p2 := run_part1 (P := P) (cs := ys.map (Value.int k)) (i := i * 1) (v := .int k b) hd rfl (by simp [hb]) w
    have p3 : (Op.equalIn (q + 1) el (.int k a) (.int k b)).run P w = .ok (a == b) w := by
      simp [Op.equalIn, run_underlying (T.hund _ _ hd)]
    rw [List.range'_succ, e1, e2]
    simp only [Op.eqItems, Sem.run_bind, p1, p2, p3, Result.andThen]
    by_cases hab : a = b
    · subst hab
      simp only [beq_self_eq_true, Bool.not_true, Bool.false_eq_true, if_false, ih]
      simp
    · have : (a == b) = false := by simpa using hab
      simp [this, hab]
theorem eqAgg_run {t el : TypeId} {len by' : Nat} {k : IntKind} {z : Value} (ht : T.und t = some (.array len el)) (hd : T.und el = some (.int k)) (hi : T.inf el = some (1, by', z)) {xs ys : List Int} (hx : xs.length = len) (hy : ys.length = len) (w : World) :
    (Op.equal t (.agg (xs.map (Value.int k)).toArray) (.agg (ys.map (Value.int k)).toArray)).run P w = .ok (decide (xs = ys)) w := by
  obtain ⟨i, hi1, hi2, hi3, hi4⟩ := T.hinf el 1 by' z hi
  have hc : P.cellsOf el = 1 := by simp [Program.cellsOf, hi1, hi2]
  show (Op.equalIn (9998 + 1 + 1) t _ _).run P w = _
  rw [run_equalIn_array w 9999 _ _ (T.hund _ _ ht) hi1, hc, List.range_eq_range']
  have := run_eqItems (P := P) hd 9998 xs ys w len 0 (by omega) (by omega)
  simpa using this
theorem Quiet.neA {x y : Operand} {ty t t' el : TypeId} {len by' : Nat} {k : IntKind} {z : Value} {xs ys : List Int} (hx : ev e x = some (.agg (xs.map (Value.int k)).toArray)) (hy : ev e y = some (.agg (ys.map (Value.int k)).toArray))
    (ht : T.und t = some (.array len el)) (hd : T.und el = some (.int k)) (hi : T.inf el = some (1, by', z)) (hlx : xs.length = len) (hly : ys.length = len) (hg : P.eqGuardType P.depth t = false) :
    Quiet P r w0 B n ds L (.binOp .neq t x y t') ty e (.bool (!decide (xs = ys))) :=
  .neV hx hy (fun w => by simp [eqGuard, program, Sem.run, hg, Result.andThen]) fun w => by
    show ((Op.equal t (.agg (xs.map (Value.int k)).toArray) (.agg (ys.map (Value.int k)).toArray) >>= fun b => pure (.bool !b) : Sem Value)).run P w = _
    rw [Sem.run_bind, eqAgg_run ht hd hi hlx hly]; rfl
end
end Go.X
