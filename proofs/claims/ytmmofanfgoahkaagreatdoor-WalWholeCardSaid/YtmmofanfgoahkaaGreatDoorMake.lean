/- Operations that make memory: slices made, appended, converted; what is read out of slices. -/
import Derived.Test.YtmmofanfgoahkaaGreatDoorSlice
import Derived.Deep.AppendSrc
import Derived.Laws.BytesString
namespace Go.X
open Go

section
variable {P : Program} {r : Option Nat} {w0 : World} {B : List Nat} {n : Nat} {Q : Post} {e : Env} {ds : List Deferred} {L : Heap} {S : Soft}

theorem XL.make {ops : Array Oper} {rest : List Oper} {d : Nat} {op : Op} {ty : TypeId} {pos : String} {af : Array Edge} {Φ : Value → Heap → Prop}
    (hq : Makes P r w0 B n ds L op ty e Φ) (hd : Nat.blt d n = true) (h : ∀ v H, Φ v H → XL P r w0 B n ops rest Q ((d, v) :: e) ds (H ++ L)) : XL P r w0 B n ops (⟨some d, op, ty, pos, af, none⟩ :: rest) Q e ds L := by
  refine ⟨fun a w hs => ?_⟩
  refine wpListIn_plain rfl (fun K hK => ?_)
  refine hq.at_ _ _ _ _ a w (hs.sub fun i v h => get_restr_sub h) K _ (fun v H w' hφ hk hown hf => hK _ _ ((h v H hφ).run _ _ ?_))
  refine (hs.step hk (fun _ h => by cases h) (hown.append (hs.own.of_kept hk (fun _ _ h => by cases h)) fun b hb hm => ?_) (fun b hb => ?_)).put hd
  · have := hs.own.live b hm
    have := hf b hb
    omega
  · rw [ids_append] at hb
    rcases List.mem_append.1 hb with hb | hb
    · exact .inr (hf b hb)
    · exact .inl hb
/-- Out of its run. -/
theorem Makes.run {op : Op} {ty : TypeId} {Φ : Value → Heap → Prop} (hop : ∀ c, op ≠ .defer c)
    (h : ∀ (ρ : Operand → Value) (d : Option Nat) (pos : String) (af : Array Edge) (g : Option (Nat × Bool)) (w : World), (∀ x ∈ op.operands, ∀ u, ev e x = some u → ρ x = u) → Owns w L → Kept B w0 w →
      ∃ v H w', (execOp ρ ⟨d, op, ty, pos, af, g⟩).run P w = .ok (.value v) w' ∧ Φ v H ∧ Kept [] w w' ∧ Owns w' H ∧ ∀ b ∈ ids H, w.heap.size ≤ b) : Makes P r w0 B n ds L op ty e Φ := by
  refine ⟨fun d pos af g a w hs K Qx hK => ?_⟩
  obtain ⟨v, H, w', h1, h2, h3, h4, h5⟩ := h a.eval d pos af g w (fun x hx u hu => hs.eval (by rw [ev_restr hx]; exact hu)) hs.own hs.kept
  refine ⟨fun _ _ => trivial, ?_⟩
  simp only [FW_round]
  rw [semAt_of r _ _ hop, h1]
  exact hK v H w' h2 h3 h4 h5
theorem Makes.mono {op : Op} {ty : TypeId} {Φ Ψ : Value → Heap → Prop} (h : Makes P r w0 B n ds L op ty e Φ) (hi : ∀ v H, Φ v H → Ψ v H) : Makes P r w0 B n ds L op ty e Ψ :=
  ⟨fun d pos af g a w hs K Qx hK => h.at_ d pos af g a w hs K Qx fun v H w' hφ => hK v H w' (hi v H hφ)⟩
theorem push_owns (w : World) (cs : List Value) (t : TypeId) : Owns { w with heap := w.heap.push (.cells cs.toArray t (0, 0)) } [.blk w.heap.size cs t] :=
  ⟨fun x hx => by
    obtain rfl := List.mem_singleton.1 hx
    exact push_at w _, by simp [X.ids, Ent.ids]⟩
/-- the cells of k elements, each at its zero value -/
def zerosL (z : List Value) : Nat → List Value
  | 0 => []
  | k + 1 => z ++ zerosL z k
theorem zerosL_length (z : List Value) : ∀ k, (zerosL z k).length = k * z.length
  | 0 => by simp [zerosL]
  | k + 1 => by simp [zerosL, zerosL_length z k, Nat.succ_mul, Nat.add_comm]
theorem zerosL_get (z : List Value) : ∀ (k i : Nat), i < k * z.length → (zerosL z k)[i]? = z[i % z.length]?
  | 0, i, h => by omega
  | k + 1, i, h => by
    simp only [zerosL]
    by_cases hi : i < z.length
    · rw [List.getElem?_append_left hi, Nat.mod_eq_of_lt hi]
    · rw [List.getElem?_append_right (by omega), zerosL_get z k (i - z.length) (by rw [Nat.succ_mul] at h; omega), ← Nat.mod_eq_sub_mod (by omega)]
theorem zerosL_one (z : Value) : ∀ k, zerosL [z] k = List.replicate k z
  | 0 => rfl
  | k + 1 => by simp only [zerosL, zerosL_one z k]; rfl
theorem zero_map {z : Array Value} {k : Nat} : ((Array.range (k * z.size)).map (fun i => z[i % z.size]!)) = (zerosL z.toList k).toArray := by
  apply Array.ext
  · simp [zerosL_length]
  · intro i h1 h2
    simp only [Array.size_map, Array.size_range] at h1
    simp only [Array.getElem_map, Array.getElem_range, List.getElem_toArray]
    have h3 := zerosL_get z.toList k i (by simpa using h1)
    have hz : 0 < z.size := by
      rcases Nat.eq_zero_or_pos z.size with h | h
      · rw [h, Nat.mul_zero] at h1; omega
      · exact h
    have hm : i % z.size < z.size := Nat.mod_lt _ hz
    rw [List.getElem?_eq_getElem (by simpa [zerosL_length] using h1)] at h3
    simp only [Array.length_toList] at h3
    rw [List.getElem?_eq_getElem (by simpa using hm)] at h3
    rw [Option.some.inj h3]
    simp [hm]

variable [T : Tab P]
theorem Makes.bslice {t ty el : TypeId} {len s by' : Nat} {z : Value} {ps : Array (Nat × Operand)} {vs : List (Nat × Value)} {cs : List Value} (hv : evsP e ps.toList = some vs) (ht : T.und t = some (.slice el)) (hi : T.inf el = some (s, by', z))
    (hz : z.cells.toList.length = s) (hl : Nat.ble (len * s) 16777216 = true) (hc : fillL (fun i => some (i * s, s)) (zerosL z.cells.toList len) vs = some cs) :
    Makes P r w0 B n ds L (.buildSlice t len ps) ty e (fun v H => ∃ b, v = .slice (some ⟨b, 0, none⟩) len len ∧ H = [.blk b cs el]) := by
  refine .run (by simp) fun ρ d pos af g w hρ _ _ => ?_
  have e1 : (ps.map fun (i, x) => (i, ρ x)).toList = vs := by
    rw [Array.toList_map]
    exact map_evsP hv (fun x hx u hu => hρ x.2 (by simp only [Op.operands, List.mem_toArray, List.mem_map]; exact ⟨x, hx, rfl⟩) u hu)
  have hz' : z.cells.size = s := by simpa using hz
  have hl' : ¬ (len * s > 2 ^ 24) := by have := Nat.le_of_ble_eq_true hl; omega
  refine ⟨_, [.blk w.heap.size cs el], { w with heap := w.heap.push (.cells cs.toArray el (0, 0)) }, ?_, ⟨w.heap.size, rfl, rfl⟩, push_kept w _ rfl, push_owns w cs el, by simp [X.ids, Ent.ids]⟩
  by_cases h0 : len * s = 0
  · have h1 : zerosL z.cells.toList len = [] := List.eq_nil_of_length_eq_zero (by rw [zerosL_length]; simpa [hz'] using h0)
    have hm : Array.map (fun i => (#[] : Array Value)[i % (#[] : Array Value).size]!) (Array.range 0) = (zerosL z.cells.toList len).toArray := by rw [h1]; simp
    simp only [execOp, Instr.buildSlice, Sem.run_bind, run_und ht, run_size hi, Result.andThen, e1, h0, if_true, newRow, Sem.run_pure]
    simp only [show ¬ ((0 : Nat) > 2 ^ 24) by decide, if_false, Sem.run_bind, Sem.run_pure, Result.andThen, hm, fill_of hc, run_newObj']
  · have hm := zero_map (z := z.cells) (k := len)
    rw [hz'] at hm
    simp only [execOp, Instr.buildSlice, Sem.run_bind, run_und ht, run_size hi, Result.andThen, e1, if_neg hl', if_neg h0, run_zero hi, hz', hm, fill_of hc, newRow, run_newObj', Sem.run_pure]
theorem Makes.mslice {t ty el : TypeId} {x y : Operand} {k k' : IntKind} {len cap s by' : Nat} {z : Value} (hx : ev e x = some (.int k (len : Int))) (hy : ev e y = some (.int k' (cap : Int))) (ht : T.und t = some (.slice el)) (hi : T.inf el = some (s, by', z))
    (hz : z.cells.toList.length = s) (h1 : len ≤ cap) (h2 : cap ≤ 9223372036854775807) (h3 : by' * cap ≤ 281474976710656) :
    Makes P r w0 B n ds L (.makeSlice t x y) ty e (fun v H => ∃ b, v = .slice (some ⟨b, 0, none⟩) len cap ∧ H = [.blk b (zerosL z.cells.toList cap) el]) := by
  refine .run (by simp) fun ρ d pos af g w hρ _ _ => ?_
  have hz' : z.cells.size = s := by simpa using hz
  have hw1 : IntKind.i64.wrap (len : Int) = len := wrap_in (by simp only [inR]; omega)
  have hw2 : IntKind.i64.wrap (cap : Int) = cap := wrap_in (by simp only [inR]; omega)
  obtain ⟨i, hi1, hi2, hi3, hi4⟩ := T.hinf el s by' z hi
  have hty : (typeInfo el).run P w = .ok i w := by simp only [typeInfo, program, Sem.run_bind, Sem.run, Result.andThen, hi1]; rfl
  have hbig : ¬ (((i.bytes : Nat) : Int) * (cap : Int) > 2 ^ 48) := by
    have : ((i.bytes * cap : Nat) : Int) ≤ 281474976710656 := by rw [hi3]; omega
    rw [Int.natCast_mul] at this; omega
  have hroom : ∀ m, (askRoom m).run P w = .ok () w := by
    intro m; unfold askRoom; split
    · rfl
    · rfl
  have hn1 : ¬ ((cap : Int) < 0) := by omega
  have hn2 : ¬ ((len : Int) < 0) := by omega
  have hn3 : ¬ ((len : Int) > (cap : Int)) := by omega
  refine ⟨_, [.blk w.heap.size (zerosL z.cells.toList cap) el], { w with heap := w.heap.push (.cells (zerosL z.cells.toList cap).toArray el (0, 0)) }, ?_, ⟨w.heap.size, rfl, rfl⟩, push_kept w _ rfl, push_owns w _ el, by simp [X.ids, Ent.ids]⟩
  simp only [execOp, hρ x (by simp [Op.operands]) _ hx, hρ y (by simp [Op.operands]) _ hy, Instr.makeSlice, asInt, asIntOf, Sem.run_bind, run_und ht, Result.andThen, Sem.run_pure, hty, hw1, hw2, hn1, hn2, hn3, hbig, decide_false, Bool.or_false, Bool.false_or,
    Bool.false_eq_true, if_false, Int.toNat_natCast, hroom, run_size hi]
  by_cases h0 : cap * s = 0
  · have h1 : zerosL z.cells.toList cap = [] := List.eq_nil_of_length_eq_zero (by rw [zerosL_length]; simpa [hz'] using h0)
    have hm : Array.map (fun i => (#[] : Array Value)[i % (#[] : Array Value).size]!) (Array.range 0) = (zerosL z.cells.toList cap).toArray := by rw [h1]; simp
    simp only [h0, if_true, Sem.run_bind, Sem.run_pure, Result.andThen, hm, newRow, run_newObj']
  · have hm := zero_map (z := z.cells) (k := cap)
    rw [hz'] at hm
    simp only [if_neg h0, Sem.run_bind, run_zero hi, Sem.run_pure, Result.andThen, hz', hm, newRow, run_newObj']

/-! ### What is read out of a slice -/
omit T in
theorem cut_all {cs xs : List Value} {off m : Nat} (h : cut cs off m = some xs) : ∀ j u, xs[j]? = some u → cs[off + j]? = some u := by
  obtain ⟨_, h2⟩ := cut_eq h
  intro j u hu
  rw [h2] at hu
  rw [List.getElem?_take] at hu
  split at hu
  · rwa [List.getElem?_drop] at hu
  · cases hu
/-- A slice value and the cells of its m elements, of k cells each. -/
def RowAt (w : World) (v : Value) (k m : Nat) (xs : List Value) : Prop :=
  ∃ ao c, v = .slice ao m c ∧ m * k = xs.length ∧ m ≤ c ∧ (m = 0 ∨ ∃ b off cs t fz, ao = some ⟨b, off, none⟩ ∧ w.heap[b]? = some (.cells cs.toArray t fz) ∧ cut cs off xs.length = some xs)
omit T in
theorem RowAt.cell {w : World} {v : Value} {k m : Nat} {xs : List Value} (h : RowAt w v k m xs) : ∃ ao c, v = .slice ao m c ∧ m ≤ c ∧ (∀ a, ao = some a → ∀ j u, xs[j]? = some u → w.cell? (a.add j) = some u) ∧ (ao = none → m = 0) := by
  obtain ⟨ao, c, rfl, h1, h2, h3⟩ := h
  refine ⟨ao, c, rfl, h2, fun a ha j u hu => ?_, fun hn => ?_⟩
  · rcases h3 with rfl | ⟨b, off, cs, t, fz, h4, h5, h6⟩
    · have : xs = [] := List.eq_nil_of_length_eq_zero (by omega)
      rw [this] at hu; cases hu
    · rw [h4] at ha; cases ha
      rw [add_none, cell_of h5]
      exact cut_all h6 j u hu
  · rcases h3 with rfl | ⟨b, off, cs, t, fz, h4, _⟩
    · rfl
    · rw [hn] at h4; cases h4
omit T in
theorem RowAt.src {w : World} {v : Value} {k m : Nat} {xs : List Value} (h : RowAt w v k m xs) {tx e' : TypeId} (hk : P.underlying tx = some (.slice e')) (h1 : xs.all Value.oneCell' = true) : Src P k tx v m xs w := by
  have hl : xs.length = m * k := by obtain ⟨_, _, _, h, _⟩ := h; exact h.symm
  obtain ⟨ao, c, rfl, h2, h3, h4⟩ := h.cell
  have h1' : ∀ u ∈ xs, u.oneCell' = true := by simpa using h1
  cases ao with
  | none =>
    obtain rfl := h4 rfl
    obtain rfl : xs = [] := List.eq_nil_of_length_eq_zero (by omega)
    exact .ofNil w hk c
  | some a => exact .ofSlice w hk a m c xs hl (h3 a rfl) h1'
/-- It may be read wherever this heap stands, behind that world. -/
def Rd (w0 : World) (B : List Nat) (L : Heap) (v : Value) (k m : Nat) (xs : List Value) : Prop := ∀ w, Owns w L → Kept B w0 w → RowAt w v k m xs
omit T in
theorem Rd.nil {k : Nat} : Rd w0 B L (.slice none 0 0) k 0 [] := fun w _ _ => ⟨none, 0, rfl, by simp, Nat.le_refl _, .inl rfl⟩
omit T in
theorem Rd.empty {k c : Nat} {ao : Option Addr} : Rd w0 B L (.slice ao 0 c) k 0 [] := fun w _ _ => ⟨ao, c, rfl, by simp, Nat.zero_le _, .inl rfl⟩
omit T in
theorem SlOk.rowAt {w : World} {v : Value} {t : TypeId} {k m : Nat} {xs : List Value} (h : SlOk w v t k xs) (hk : 0 < k) (hm : m * k = xs.length) : RowAt w v k m xs := by
  obtain ⟨ao, n, cap, rfl, h1, h2, h3⟩ := h
  obtain rfl : m = n := Nat.eq_of_mul_eq_mul_right hk (hm.trans h1.symm)
  refine ⟨ao, cap, rfl, h1, h2, ?_⟩
  rcases h3 with rfl | ⟨b, cs, rfl, h4, h5, h6⟩
  · exact .inl (by omega)
  · refine .inr ⟨b, 0, cs, t, (0, 0), rfl, h4, ?_⟩
    rw [cut_some (by have := congrArg List.length h6; simp at this; omega), List.drop_zero, h6]
omit T in
theorem Rd.sl {v : Value} {t : TypeId} {k m : Nat} {xs : List Value} (h : Ent.sl v t k xs ∈ L) (hk : 0 < k) (hm : m * k = xs.length) : Rd w0 B L v k m xs := fun _ ho _ => SlOk.rowAt (ho.ok _ h) hk hm
omit T in
theorem Rd.blk {b off c : Nat} {cs : List Value} {t : TypeId} {k m : Nat} {xs : List Value} (h : Ent.blk b cs t ∈ L) (hm : m * k = xs.length) (hc : m ≤ c) (hx : cut cs off xs.length = some xs) : Rd w0 B L (.slice (some ⟨b, off, none⟩) m c) k m xs :=
  fun _ ho _ => ⟨_, c, rfl, hm, hc, .inr ⟨b, off, cs, t, (0, 0), rfl, ho.ok _ h, hx⟩⟩
omit T in
theorem Rd.old {v : Value} {k m : Nat} {xs : List Value} (h : RowAt w0 v k m xs) (hB : ∀ a c, v = .slice (some a) m c → a.block ∉ B) : Rd w0 B L v k m xs := by
  intro w _ hk
  obtain ⟨ao, c, rfl, h1, h2, h3⟩ := h
  refine ⟨ao, c, rfl, h1, h2, h3.imp id fun ⟨b, off, cs, t, fz, h4, h5, h6⟩ => ⟨b, off, cs, t, fz, h4, ?_, h6⟩⟩
  subst h4
  exact (hk.same b (Array.getElem?_eq_some_iff.1 h5).1 (hB _ _ rfl)).trans h5

/-! ### Bytes and strings -/
omit T in
theorem push_fold : ∀ (l : List UInt8) (s : ByteArray), ((l.map fun c => ((c.toNat : Nat) : Int)).foldl (fun (r : ByteArray) n => r.push (UInt8.ofNat n.toNat)) s) = ⟨⟨s.data.toList ++ l⟩⟩
  | [], s => by simp
  | c :: l, s => by
    simp only [List.map_cons, List.foldl_cons]
    rw [push_fold l]
    have : (UInt8.ofNat ((c.toNat : Nat) : Int).toNat) = c := by simp
    rw [this]
    simp [ByteArray.push]
/-- the cells of bytes -/
abbrev bcells (l : List UInt8) : List Value := l.map fun c => Value.int .u8 (c.toNat : Int)
theorem Quiet.bytesStr {s d ty el : TypeId} {x : Operand} {v : Value} {m : Nat} {l : List UInt8} (hx : ev e x = some v) (hs : T.und s = some (.slice el)) (he : T.und el = some (.int .u8)) (hd : T.und d = some .string) (hr : Rd w0 B L v 1 m (bcells l)) :
    Quiet P r w0 B n ds L (.convert s d x) ty e (str l) :=
  .run (by simp) fun ρ d' pos af g w hρ ho hk => by
    have hrow := hr w ho hk
    obtain ⟨ao, c, rfl, h1, h2, h3⟩ := hrow
    simp only [execOp, hρ x (by simp [Op.operands]) _ hx, Sem.run_bind]
    rw [run_convert_bytes_string w s d el ao m c (T.hund _ _ hs) (T.hund _ _ he) (T.hund _ _ hd)]
    have hm : m = l.length := by simpa using h1
    have hmap : bcells l = (l.map fun c => ((c.toNat : Nat) : Int)).map (Value.int .u8) := by simp [bcells, Function.comp]
    cases ao with
    | none =>
      rcases h3 with rfl | ⟨_, _, _, _, _, h4, _⟩
      · have : l = [] := List.eq_nil_of_length_eq_zero hm.symm
        subst this
        simp [Conv.bytesToString, Result.andThen]; rfl
      · cases h4
    | some a =>
      have hl : (loadCells a m).run P w = .ok ((l.map fun c => ((c.toNat : Nat) : Int)).map (Value.int .u8)).toArray w := by
        rcases h3 with rfl | ⟨b, off, cs, t, fz, h4, h5, h6⟩
        · have : l = [] := List.eq_nil_of_length_eq_zero hm.symm
          subst this
          simp [loadCells, loadCellsFrom]
        · cases h4
          rw [← hmap]
          have := run_loadCells_sub (P := P) h5 h6
          simpa [bcells, hm] using this
      rw [run_bytesToString w a m c _ hl, push_fold]
      simp [Result.andThen]
/-! ### Calls that hand out memory -/
omit T in
theorem Makes.call {α : Type} {g : Operand} {args : Array Operand} {tys : Array TypeId} {ty : TypeId} {fid : FuncId} {first cap : Array Value} {vs : List Value} {ret : α → Value} {L1 : α → Heap} {φ : α → Prop}
    (hg : ev e g = some (.func (.func fid) first cap)) (ha : evs e args.toList = some vs)
    (hf : ∀ a w, Sit w0 B n [] ds L a w → Fx P fid (first.toList ++ vs ++ cap.toList) w (Ret w [] ret L1 φ)) :
    Makes P r w0 B n ds L (.call ⟨.value g, args, tys⟩) ty e (fun v H => ∃ x, φ x ∧ v = ret x ∧ H = L1 x) := by
  refine ⟨fun d pos af gd a w hs K Qx hK => ?_⟩
  have hfn := hf a w (hs.sub fun i v h => by simp [get] at h)
  have hmem : ∀ x ∈ args.toList, x ∈ (Op.call ⟨.value g, args, tys⟩).operands := fun x hx => by simp [Op.operands, Call.operands]; exact .inr (by simpa using hx)
  have hg' : a.eval g = .func (.func fid) first cap := hs.eval (by rw [ev_restr (by simp [Op.operands, Call.operands])]; exact hg)
  have ha' : args.map a.eval = vs.toArray := by
    rw [← Array.toList_inj]; simp only [Array.toList_map]
    exact map_evs ha (fun x hx u hu => hs.eval (by rw [ev_restr (hmem x hx)]; exact hu))
  refine ⟨fun _ _ => trivial, ?_⟩
  simp only [FW_round]
  rw [semAt_of r _ _ (by simp), run_call (P := P) rfl rfl hg' ha' hfn.enters]
  refine ⟨fun h => by simp at h, ?_⟩
  have e1 : first ++ vs.toArray ++ cap = (first.toList ++ vs ++ cap.toList).toArray := by apply Array.ext'; simp
  rw [e1]
  refine (calls_in hfn.calls).mono (fun en w' hr => ?_)
  cases en with
  | panicked _ => exact hr.elim
  | outgrown => exact hr.elim
  | returned u =>
    obtain ⟨x, hx, rfl, ho, hk, hnew⟩ := hr
    exact hK _ _ w' ⟨x, hx, rfl, rfl⟩ hk ho (fun b hb => (hnew b hb).elim (fun h => by simp [X.ids] at h) id)
/-! ### append -/
omit T in
theorem SlOk.nil (w : World) (t : TypeId) (k : Nat) : SlOk w (.slice none 0 0) t k [] := ⟨none, 0, 0, rfl, by simp, Nat.le_refl _, .inl rfl⟩
omit T in
theorem zeroCells_eq (z : Array Value) (k : Nat) : Builtin.zeroCells z k = (zerosL z.toList k).toArray := zero_map
theorem run_append {t tx ty el : TypeId} {k by' m : Nat} {z v x : Value} {xs news : List Value} {w : World} (ht : T.und t = some (.slice el)) (hi : T.inf el = some (k, by', z)) (hz : z.cells.toList.length = k) (hk : 0 < k)
    (hok : SlOk w v el k xs) (hs : Src P k tx x m news w) (h63 : xs.length + news.length ≤ 4611686018427387904) (hby : (xs.length + news.length) * by' ≤ 140737488355328) :
    ∃ v' w', (Builtin.append_ #[t, tx] ty #[v, x]).run P w = .ok v' w' ∧ SlOk w' v' el k (xs ++ news) ∧ Kept (slIds v) w w' ∧ (slIds v').Nodup ∧ ∀ b ∈ slIds v', b ∈ slIds v ∨ w.heap.size ≤ b := by
  obtain ⟨ao, n, cap, rfl, h1, h2, h3⟩ := hok
  obtain ⟨i, hi1, hi2, hi3, hi4⟩ := T.hinf el k by' z hi
  have hu := T.hund _ _ ht
  have hnl := hs.newsLen
  have hnd : ∀ a l c, (slIds (.slice a l c)).Nodup := by
    intro a l c; cases a <;> cases c <;> simp [slIds]
  have hnn : n ≤ xs.length ∧ m ≤ news.length := ⟨by rw [← h1]; exact Nat.le_mul_of_pos_right n hk, by rw [hnl]; exact Nat.le_mul_of_pos_right m hk⟩
  by_cases hroom : n + m ≤ cap
  · -- there is room
    cases cap with
    | zero =>
      obtain rfl : n = 0 := by omega
      obtain rfl : m = 0 := by omega
      obtain rfl : xs = [] := List.eq_nil_of_length_eq_zero (by omega)
      obtain rfl : news = [] := List.eq_nil_of_length_eq_zero (by omega)
      refine ⟨.slice ao 0 0, w, ?_, ⟨ao, 0, 0, rfl, by simp, Nat.le_refl _, .inl rfl⟩, .refl _ _, hnd _ _ _, fun b hb => .inl hb⟩
      have hc : (Builtin.firstCells i.size 0 x).run P w = .ok #[] w := by rw [hi2]; exact hs.cells
      cases ao with
      | none => rcases hs.kind with ⟨e', hk'⟩ | hk' <;> simp [Builtin.append_, run_underlying hu, run_underlying hk', sizeOf, typeInfo, hi1, hs.len, hc]
      | some a => rcases hs.kind with ⟨e', hk'⟩ | hk' <;> simp [Builtin.append_, run_underlying hu, run_underlying hk', sizeOf, typeInfo, hi1, hs.len, hc, storeCells]
    | succ cap =>
      rcases h3 with h3 | ⟨b, cs, rfl, h4, h5, h6⟩
      · cases h3
      have hlen : xs.length + news.length ≤ cs.length := by rw [← h1, hnl, ← Nat.add_mul]; exact Nat.le_trans (Nat.mul_le_mul_right _ hroom) h5
      obtain ⟨w', hr, hh, hkp⟩ := run_storeCells (P := P) (off := xs.length) (vs := news) h4 ⟨hlen, rfl⟩ (by simpa using hs.one)
      refine ⟨.slice (some ⟨b, 0, none⟩) (n + m) (cap + 1), w', ?_, ⟨_, n + m, cap + 1, rfl, by rw [Nat.add_mul, h1, List.length_append, hnl], hroom, .inr ⟨b, _, rfl, hh, ?_, ?_⟩⟩, hkp, hnd _ _ _, fun b hb => .inl hb⟩
      · have hc : (Builtin.firstCells i.size m x).run P w = .ok news.toArray w := by rw [hi2]; exact hs.cells
        have hr' : (storeCells ⟨b, n * i.size, none⟩ news).run P w = .ok () w' := by rw [hi2, h1]; exact hr
        rcases hs.kind with ⟨e', hk'⟩ | hk' <;> simp [Builtin.append_, run_underlying hu, run_underlying hk', sizeOf, typeInfo, hi1, hs.len, hroom, hc, Addr.add_lit, hr']
      · simp only [List.length_append, List.length_take, List.length_drop]; omega
      · have : (cs.take xs.length ++ news).length = (xs ++ news).length := by simp only [List.length_append, List.length_take]; omega
        rw [← this, List.take_left, h6]
  · -- there is none
    have hold : (Builtin.firstCells i.size n (.slice ao n cap)).run P w.drew = .ok xs.toArray w.drew := by
      cases ao with
      | none =>
        rcases h3 with rfl | ⟨b, cs, h4, _⟩
        · obtain rfl : xs = [] := List.eq_nil_of_length_eq_zero (by rw [← h1, show n = 0 by omega]; simp)
          exact run_firstCells_none w.drew _ _ _ _
        · cases h4
      | some a =>
        refine run_firstCells_some w.drew i.size n a n cap xs (by rw [hi2, h1]) fun j u hu' => ?_
        rcases h3 with rfl | ⟨b, cs, h4, h5, h6, h7⟩
        · obtain rfl : xs = [] := List.eq_nil_of_length_eq_zero (by rw [← h1, show n = 0 by omega]; simp)
          cases hu'
        · cases h4
          have h5' : w.drew.heap[b]? = some (.cells cs.toArray el (0, 0)) := h5
          rw [add_none, cell_of h5', Nat.zero_add]
          rw [← h7, List.getElem?_take] at hu'
          split at hu'
          · exact hu'
          · cases hu'
    have hs' : Src P i.size tx x m news w := by rw [hi2]; exact hs
    have hfit : Builtin.nextslicecap (n + m) cap * i.bytes ≤ 281474976710656 := by
      refine growslice_fits (by omega) (Nat.le_trans ?_ hby)
      rw [hi3]
      exact Nat.mul_le_mul_right _ (Nat.add_le_add hnn.1 hnn.2)
    have hr := run_append_grow_src (P := P) w t tx ty el i z hu hi1 hi4 ao n cap xs hold x m news hs' (by omega) (by omega) hfit
    have hge := grownCap_ge w (n + m) cap el
    refine ⟨_, _, hr, ⟨_, n + m, grownCap w (n + m) cap el, rfl, by rw [Nat.add_mul, h1, List.length_append, hnl], hge, .inr ⟨w.heap.size, (xs ++ news) ++ zerosL z.cells.toList (grownCap w (n + m) cap el - (n + m)), rfl, ?_, ?_, ?_⟩⟩, ?_, hnd _ _ _, ?_⟩
    · refine (heap_alloc_new w.drew _).trans ?_
      rw [zeroCells_eq]
      simp
    · refine Nat.le_of_eq ?_
      rw [List.length_append, zerosL_length, hz, List.length_append, hnl, ← h1, ← Nat.add_mul, ← Nat.add_mul]
      congr 1; omega
    · exact List.take_left
    · have k2 := push_kept w.drew (.cells ((xs ++ news).toArray ++ Builtin.zeroCells z.cells (grownCap w (n + m) cap el - (n + m))) el) rfl
      exact ((Kept.drawn [] w (w.drawn + 1)).trans k2 (fun b hb => by cases hb)).mono (fun b hb => by cases hb)
    · intro b hb
      cases hg : grownCap w (n + m) cap el with
      | zero => rw [hg] at hb; simp [slIds] at hb
      | succ c => rw [hg] at hb; simp [slIds] at hb; exact .inr (Nat.le_of_eq hb.symm)

omit T in
theorem run_builtin {b : Builtin} {args : Array Operand} {tys : Array TypeId} {ty : TypeId} {ρ : Operand → Value} {vs : List Value} {v : Value} {d : Option Nat} {pos : String} {af : Array Edge} {g : Option (Nat × Bool)} {w w' : World}
    (ha : args.toList.map ρ = vs) (hb : ∀ consts, (builtin b tys ty consts vs.toArray).run P w = .ok (.value v) w') : (execOp ρ ⟨d, .call ⟨.builtin b, args, tys⟩, ty, pos, af, g⟩).run P w = .ok (.value v) w' := by
  have e1 : args.map ρ = vs.toArray := by rw [← Array.toList_inj]; simpa using ha
  simp only [execOp, resolve, e1, Sem.run_bind, Sem.run_pure, Result.andThen, invoke, hb]
/-- append to an own slice -/
theorem XL.app {ops : Array Oper} {rest : List Oper} {d : Nat} {s x : Operand} {t tx ty el e' : TypeId} {pos : String} {af : Array Edge} {k by' m : Nat} {z v u : Value} {xs news : List Value} {L' : Value → Heap}
    (hs : ev e s = some v) (hx : ev e x = some u) (ht : T.und t = some (.slice el)) (htx : T.und tx = some (.slice e')) (hi : T.inf el = some (k, by', z)) (hz : z.cells.toList.length = k) (hk : 0 < k)
    (hm : Ent.sl v el k xs ∈ L) (hr : Rd w0 B L u k m news) (h1 : news.all Value.oneCell' = true) (h63 : xs.length + news.length ≤ 4611686018427387904) (hby : (xs.length + news.length) * by' ≤ 140737488355328)
    (hu : ∀ v', Upd L (.sl v el k xs) (.sl v' el k (xs ++ news)) (L' v')) (hd : Nat.blt d n = true)
    (h : ∀ v', XL P r w0 B n ops rest Q ((d, v') :: e) ds (L' v')) : XL P r w0 B n ops (⟨some d, .call ⟨.builtin .append, #[s, x], #[t, tx]⟩, ty, pos, af, none⟩ :: rest) Q e ds L := by
  refine XL.valX (φ := fun _ => True) (v := id) (L' := L') hd (by simp) (fun a w hs' => ?_) (fun v' _ => h v')
  obtain ⟨v', w', hrun, hok, hkp, hnd, hids⟩ := run_append (ty := ty) ht hi hz hk (hs'.own.ok _ hm) ((hr w hs'.own hs'.kept).src (T.hund _ _ htx) h1) h63 hby
  obtain ⟨ho, hn⟩ := (hu v').owns' hs'.own hok hnd hkp hids
  refine ⟨v', w', trivial, run_builtin (vs := [v, u]) (by simp [hs'.eval hs, hs'.eval hx]) (fun consts => blt_run rfl hrun), hs'.step hkp (fun b hb => mem_ids.2 ⟨_, hm, hb⟩) ho hn⟩
/-- append to nil -/
theorem Makes.app {s x : Operand} {t tx ty el e' : TypeId} {k by' m : Nat} {z u : Value} {news : List Value}
    (hs : ev e s = some (.slice none 0 0)) (hx : ev e x = some u) (ht : T.und t = some (.slice el)) (htx : T.und tx = some (.slice e')) (hi : T.inf el = some (k, by', z)) (hz : z.cells.toList.length = k) (hk : 0 < k)
    (hr : Rd w0 B L u k m news) (h1 : news.all Value.oneCell' = true) (h63 : news.length ≤ 4611686018427387904) (hby : news.length * by' ≤ 140737488355328) :
    Makes P r w0 B n ds L (.call ⟨.builtin .append, #[s, x], #[t, tx]⟩) ty e (fun v H => H = [.sl v el k news]) := by
  refine .run (by simp) fun ρ d pos af g w hρ ho hkp => ?_
  obtain ⟨v', w', hrun, hok, hk2, hnd, hids⟩ := run_append (ty := ty) ht hi hz hk (SlOk.nil w el k) ((hr w ho hkp).src (T.hund _ _ htx) h1) (by simpa using h63) (by simpa using hby)
  have hb : ∀ b ∈ slIds v', w.heap.size ≤ b := fun b hb => (hids b hb).elim (fun h => by simp [slIds] at h) id
  refine ⟨v', _, w', run_builtin (vs := [.slice none 0 0, u]) (by simp [hρ s (by simp [Op.operands, Call.operands]) _ hs, hρ x (by simp [Op.operands, Call.operands]) _ hx]) (fun consts => blt_run rfl hrun), rfl, hk2.mono (fun b hb => by simp [slIds] at hb), ⟨fun y hy => ?_, ?_⟩, ?_⟩
  · obtain rfl := List.mem_singleton.1 hy
    rw [List.nil_append] at hok
    exact hok
  · simpa [X.ids, Ent.ids] using hnd
  · simpa [X.ids, Ent.ids] using hb
/-! ### Entries seen otherwise -/
omit T in
theorem Sit.addNil {a : Act} {w : World} (h : Sit w0 B n e ds L a w) (t : TypeId) (k : Nat) : Sit w0 B n e ds (.sl (.slice none 0 0) t k [] :: L) a w :=
  ⟨h.sz, h.df, h.env, ⟨fun x hx => (List.mem_cons.1 hx).elim (fun e => e ▸ SlOk.nil w t k) (h.own.ok x), by simpa [X.ids, Ent.ids, slIds] using h.own.nd⟩, h.kept, fun b hb => h.wr b (by simpa [X.ids, Ent.ids, slIds] using hb)⟩
omit T in
theorem XC.addNil {c : Code} (t : TypeId) (k : Nat) (h : XC P r w0 B n c Q e ds (.sl (.slice none 0 0) t k [] :: L)) : XC P r w0 B n c Q e ds L := ⟨fun a w hs => h.run a w (hs.addNil t k)⟩
omit T in
theorem XL.addNil {ops : Array Oper} {l : List Oper} (t : TypeId) (k : Nat) (h : XL P r w0 B n ops l Q e ds (.sl (.slice none 0 0) t k [] :: L)) : XL P r w0 B n ops l Q e ds L := ⟨fun a w hs => h.run a w (hs.addNil t k)⟩
omit T in
theorem XE.addNil {ex : Exit} (t : TypeId) (k : Nat) (h : XE w0 B n ex Q e ds (.sl (.slice none 0 0) t k [] :: L)) : XE w0 B n ex Q e ds L := ⟨fun a w hs => h.run a w (hs.addNil t k)⟩
omit T in
/-- One entry, seen otherwise: the same memory. -/
theorem Sit.see {a : Act} {w : World} {x y : Ent} {L' : Heap} (h : Sit w0 B n e ds L a w) (hu : Upd L x y L') (hi : ∀ b ∈ y.ids, b ∈ x.ids) (hn : y.ids.Nodup) (hy : y.ok w) : Sit w0 B n e ds L' a w := by
  obtain ⟨ho, hb⟩ := hu.owns' h.own hy hn (Kept.refl _ w) (fun b hb => .inl (hi b hb))
  exact ⟨h.sz, h.df, h.env, ho, h.kept, fun b hb' => (hb b hb').elim (h.wr b) (fun hle => .inr (Nat.le_trans h.kept.size hle))⟩
omit T in
theorem Sit.openSl {a : Act} {w : World} {v : Value} {t : TypeId} {k m : Nat} {xs : List Value} (h : Sit w0 B n e ds L a w) (hm : Ent.sl v t k xs ∈ L) (hk : 0 < k) (hx : m * k = xs.length) (hp : 0 < m) :
    ∃ b cs cap, v = .slice (some ⟨b, 0, none⟩) m cap ∧ m ≤ cap ∧ cap * k ≤ cs.length ∧ cs.take xs.length = xs ∧ ∀ L', Upd L (.sl v t k xs) (.blk b cs t) L' → Sit w0 B n e ds L' a w := by
  obtain ⟨ao, n', cap, rfl, h1, h2, h3⟩ := h.own.ok _ hm
  obtain rfl : m = n' := Nat.eq_of_mul_eq_mul_right hk (hx.trans h1.symm)
  rcases h3 with rfl | ⟨b, cs, rfl, h4, h5, h6⟩
  · omega
  · refine ⟨b, cs, cap, rfl, h2, h5, h6, fun L' hu => h.see hu ?_ (by simp [Ent.ids]) h4⟩
    intro b' hb'
    obtain ⟨c, rfl⟩ : ∃ c, cap = c + 1 := ⟨cap - 1, by omega⟩
    simpa [Ent.ids, slIds] using hb'
omit T in
theorem XL.openSl {ops : Array Oper} {l : List Oper} {v : Value} {t : TypeId} {k m : Nat} {xs : List Value} {L' : Nat → List Value → Heap} (hm : Ent.sl v t k xs ∈ L) (hk : 0 < k) (hx : m * k = xs.length) (hp : 0 < m)
    (hu : ∀ b cs, Upd L (.sl v t k xs) (.blk b cs t) (L' b cs))
    (h : ∀ b cs cap, v = .slice (some ⟨b, 0, none⟩) m cap → m ≤ cap → cap * k ≤ cs.length → cs.take xs.length = xs → XL P r w0 B n ops l Q e ds (L' b cs)) : XL P r w0 B n ops l Q e ds L :=
  ⟨fun a w hs => by
    obtain ⟨b, cs, cap, h1, h2, h3, h4, h5⟩ := hs.openSl hm hk hx hp
    exact (h b cs cap h1 h2 h3 h4).run a w (h5 _ (hu b cs))⟩
omit T in
theorem XC.openSl {c : Code} {v : Value} {t : TypeId} {k m : Nat} {xs : List Value} {L' : Nat → List Value → Heap} (hm : Ent.sl v t k xs ∈ L) (hk : 0 < k) (hx : m * k = xs.length) (hp : 0 < m)
    (hu : ∀ b cs, Upd L (.sl v t k xs) (.blk b cs t) (L' b cs))
    (h : ∀ b cs cap, v = .slice (some ⟨b, 0, none⟩) m cap → m ≤ cap → cap * k ≤ cs.length → cs.take xs.length = xs → XC P r w0 B n c Q e ds (L' b cs)) : XC P r w0 B n c Q e ds L :=
  ⟨fun a w hs => by
    obtain ⟨b, cs, cap, h1, h2, h3, h4, h5⟩ := hs.openSl hm hk hx hp
    exact (h b cs cap h1 h2 h3 h4).run a w (h5 _ (hu b cs))⟩
omit T in
theorem Sit.shutSl {a : Act} {w : World} {b m cap : Nat} {cs xs : List Value} {t : TypeId} {k : Nat} {L' : Heap} (h : Sit w0 B n e ds L a w) (hm : Ent.blk b cs t ∈ L) (hx : m * k = xs.length) (hc : m ≤ cap) (hl : cap * k ≤ cs.length) (ht : cs.take xs.length = xs)
    (hu : Upd L (.blk b cs t) (.sl (.slice (some ⟨b, 0, none⟩) m cap) t k xs) L') : Sit w0 B n e ds L' a w := by
  refine h.see hu (fun b' hb' => ?_) ?_ ⟨_, m, cap, rfl, hx, hc, .inr ⟨b, cs, rfl, h.own.ok _ hm, hl, ht⟩⟩
  · cases cap <;> simp [Ent.ids, slIds] at hb' ⊢; exact hb'
  · cases cap <;> simp [Ent.ids, slIds]
omit T in
theorem XL.shutSl {ops : Array Oper} {l : List Oper} {b m cap : Nat} {cs xs : List Value} {t : TypeId} {k : Nat} {L' : Heap} (hm : Ent.blk b cs t ∈ L) (hx : m * k = xs.length) (hc : m ≤ cap) (hl : cap * k ≤ cs.length) (ht : cs.take xs.length = xs)
    (hu : Upd L (.blk b cs t) (.sl (.slice (some ⟨b, 0, none⟩) m cap) t k xs) L') (h : XL P r w0 B n ops l Q e ds L') : XL P r w0 B n ops l Q e ds L := ⟨fun a w hs => h.run a w (hs.shutSl hm hx hc hl ht hu)⟩
omit T in
theorem XC.shutSl {c : Code} {b m cap : Nat} {cs xs : List Value} {t : TypeId} {k : Nat} {L' : Heap} (hm : Ent.blk b cs t ∈ L) (hx : m * k = xs.length) (hc : m ≤ cap) (hl : cap * k ≤ cs.length) (ht : cs.take xs.length = xs)
    (hu : Upd L (.blk b cs t) (.sl (.slice (some ⟨b, 0, none⟩) m cap) t k xs) L') (h : XC P r w0 B n c Q e ds L') : XC P r w0 B n c Q e ds L := ⟨fun a w hs => h.run a w (hs.shutSl hm hx hc hl ht hu)⟩
omit T in
theorem XE.shutSl {ex : Exit} {b m cap : Nat} {cs xs : List Value} {t : TypeId} {k : Nat} {L' : Heap} (hm : Ent.blk b cs t ∈ L) (hx : m * k = xs.length) (hc : m ≤ cap) (hl : cap * k ≤ cs.length) (ht : cs.take xs.length = xs)
    (hu : Upd L (.blk b cs t) (.sl (.slice (some ⟨b, 0, none⟩) m cap) t k xs) L') (h : XE w0 B n ex Q e ds L') : XE w0 B n ex Q e ds L := ⟨fun a w hs => h.run a w (hs.shutSl hm hx hc hl ht hu)⟩

/-! ### A slice against nil; cuts -/
theorem eqSl_run {t el : TypeId} (ht : T.und t = some (.slice el)) (a : Option Addr) (m c : Nat) (w : World) : (Op.equal t (.slice a m c) (.slice none 0 0)).run P w = .ok a.isNone w :=
  run_equal (fun d => by cases a <;> (simp only [Op.equalIn, Sem.run_bind, run_und ht, Result.andThen]; rfl))
theorem Quiet.eqNilSl {x y : Operand} {ty t t' el : TypeId} {a : Option Addr} {m c : Nat} (hx : ev e x = some (.slice a m c)) (hy : ev e y = some (.slice none 0 0)) (ht : T.und t = some (.slice el)) :
    Quiet P r w0 B n ds L (.binOp .eql t x y t') ty e (.bool a.isNone) :=
  .eqV hx hy (fun _ => rfl) fun w => by
    show ((Op.equal t (.slice a m c) (.slice none 0 0) >>= fun b => pure (.bool b) : Sem Value)).run P w = _
    rw [Sem.run_bind, eqSl_run ht]; rfl
/-- the address of a cut: where it begins at the end of the room, it stays -/
def cutAt (b off s c l : Nat) : Addr := if c = l then ⟨b, off, none⟩ else ⟨b, off + l * s, none⟩
theorem Quiet.cutX {t ty el : TypeId} {x : Operand} {lo hi mx : Option Operand} {b off m c l h q s by' : Nat} {z : Value} (hx : ev e x = some (.slice (some ⟨b, off, none⟩) m c))
    (hl : (∃ y k, lo = some y ∧ ev e y = some (.int k (l : Int))) ∨ (lo = none ∧ l = 0)) (hh : (∃ y k, hi = some y ∧ ev e y = some (.int k (h : Int))) ∨ (hi = none ∧ mx = none ∧ h = m)) (hq : (∃ y k, mx = some y ∧ ev e y = some (.int k (q : Int))) ∨ (mx = none ∧ q = c))
    (ht : T.und t = some (.slice el)) (hi' : T.inf el = some (s, by', z)) (h1 : l ≤ h) (h2 : h ≤ q) (h3 : q ≤ c) : Quiet P r w0 B n ds L (.slice t x lo hi mx) ty e (.slice (some (cutAt b off s q l)) (h - l) (q - l)) :=
  .run (by simp) fun ρ d pos af g w hρ _ _ => by
    have hb : (Instr.sliceBounds true m c (lo.map ρ) (hi.map ρ) (mx.map ρ)).run P w = .ok (l, h, q) w := by
      have hlo : ∀ y, lo = some y → y ∈ (Op.slice t x lo hi mx).operands := fun y e => by subst e; simp [Op.operands]
      have hhi : ∀ y, hi = some y → y ∈ (Op.slice t x lo hi mx).operands := fun y e => by subst e; simp [Op.operands]
      have hmx : ∀ y, mx = some y → y ∈ (Op.slice t x lo hi mx).operands := fun y e => by subst e; simp [Op.operands]
      rcases hq with ⟨y, k, rfl, hy⟩ | ⟨rfl, rfl⟩
      · rcases hh with ⟨y2, k2, rfl, hy2⟩ | ⟨_, h0, _⟩
        · rcases hl with ⟨y3, k3, rfl, hy3⟩ | ⟨rfl, rfl⟩
          · simp [Instr.sliceBounds, hρ y (hmx y rfl) _ hy, hρ y2 (hhi y2 rfl) _ hy2, hρ y3 (hlo y3 rfl) _ hy3, run_bound h1, run_bound h2, run_bound h3, Result.andThen]
          · simp [Instr.sliceBounds, hρ y (hmx y rfl) _ hy, hρ y2 (hhi y2 rfl) _ hy2, run_bound h2, run_bound h3, Result.andThen]
        · cases h0
      · rcases hh with ⟨y2, k2, rfl, hy2⟩ | ⟨rfl, _, rfl⟩
        · rcases hl with ⟨y3, k3, rfl, hy3⟩ | ⟨rfl, rfl⟩
          · simp [Instr.sliceBounds, hρ y2 (hhi y2 rfl) _ hy2, hρ y3 (hlo y3 rfl) _ hy3, run_bound h1, run_bound h2, Result.andThen]
          · simp [Instr.sliceBounds, hρ y2 (hhi y2 rfl) _ hy2, run_bound h2, Result.andThen]
        · rcases hl with ⟨y3, k3, rfl, hy3⟩ | ⟨rfl, rfl⟩
          · simp [Instr.sliceBounds, hρ y3 (hlo y3 rfl) _ hy3, run_bound h1, Result.andThen]
          · simp [Instr.sliceBounds]
    simp only [execOp, hρ x (by simp [Op.operands]) _ hx, Instr.sliceAt, Sem.run_bind, run_und ht, Result.andThen, Instr.slice, hb, run_size hi', Sem.run_pure, Option.map_some, cutAt, add_none]
    by_cases hql : q = l
    · simp only [if_pos hql]
    · simp only [if_neg hql]
omit T in
theorem Rd.cut {b off s c l k m cap : Nat} {cs xs : List Value} {t : TypeId} (h : Ent.blk b cs t ∈ L) (hm : m * k = xs.length) (hc : m ≤ cap) (h0 : c = l → m = 0) (hx : cut cs (off + l * s) xs.length = some xs) : Rd w0 B L (.slice (some (cutAt b off s c l)) m cap) k m xs := by
  by_cases hcl : c = l
  · obtain rfl := h0 hcl
    have : xs = [] := List.eq_nil_of_length_eq_zero (by omega)
    subst this
    exact .empty
  · simp only [cutAt, if_neg hcl]
    exact .blk h hm hc hx
/-! ### append where there is room; clear; copy -/
/-- the cells of a row that is owned are overwritten -/
theorem run_app_room {t tx ty el : TypeId} {k by' m b off l c : Nat} {z x : Value} {cs cs' news : List Value} {tt : TypeId} {w : World} (ht : T.und t = some (.slice el)) (hi : T.inf el = some (k, by', z))
    (hb : w.heap[b]? = some (.cells cs.toArray tt (0, 0))) (hs : Src P k tx x m news w) (hroom : l + m ≤ c) (hp : SplL cs (off + l * k) news cs') :
    ∃ w', (Builtin.append_ #[t, tx] ty #[.slice (some ⟨b, off, none⟩) l c, x]).run P w = .ok (.slice (some ⟨b, off, none⟩) (l + m) c) w' ∧ w'.heap[b]? = some (.cells cs'.toArray tt (0, 0)) ∧ Kept [b] w w' := by
  obtain ⟨i, hi1, hi2, hi3, hi4⟩ := T.hinf el k by' z hi
  have hu := T.hund _ _ ht
  obtain ⟨w', hr, hh, hkp⟩ := run_storeCells (P := P) hb hp (by simpa using hs.one)
  refine ⟨w', ?_, hh, hkp⟩
  have hc : (Builtin.firstCells i.size m x).run P w = .ok news.toArray w := by rw [hi2]; exact hs.cells
  have hr' : (storeCells ⟨b, off + l * i.size, none⟩ news).run P w = .ok () w' := by rw [hi2]; exact hr
  rcases hs.kind with ⟨e', hk'⟩ | hk' <;> simp [Builtin.append_, run_underlying hu, run_underlying hk', sizeOf, typeInfo, hi1, hs.len, hroom, hc, Addr.add_lit, hr']
theorem XL.appRoom {ops : Array Oper} {rest : List Oper} {d : Nat} {s x : Operand} {t tx ty el e' : TypeId} {pos : String} {af : Array Edge} {k by' m b off l c : Nat} {z u : Value} {tt : TypeId} {cs cs' news : List Value} {L' : Heap}
    (hs : ev e s = some (.slice (some ⟨b, off, none⟩) l c)) (hx : ev e x = some u) (ht : T.und t = some (.slice el)) (htx : T.und tx = some (.slice e')) (hi : T.inf el = some (k, by', z))
    (hm : Ent.blk b cs tt ∈ L) (hr : Rd w0 B L u k m news) (h1 : news.all Value.oneCell' = true) (hroom : l + m ≤ c) (hp : SplL cs (off + l * k) news cs')
    (hu : Upd L (.blk b cs tt) (.blk b cs' tt) L') (hd : Nat.blt d n = true)
    (h : XL P r w0 B n ops rest Q ((d, .slice (some ⟨b, off, none⟩) (l + m) c) :: e) ds L') : XL P r w0 B n ops (⟨some d, .call ⟨.builtin .append, #[s, x], #[t, tx]⟩, ty, pos, af, none⟩ :: rest) Q e ds L := by
  refine XL.valX (φ := fun _ : Unit => True) (v := fun _ => .slice (some ⟨b, off, none⟩) (l + m) c) (L' := fun _ => L') hd (by simp) (fun a w hs' => ?_) (fun _ _ => h)
  obtain ⟨w', hrun, hh, hkp⟩ := run_app_room (ty := ty) ht hi (hs'.own.ok _ hm) ((hr w hs'.own hs'.kept).src (T.hund _ _ htx) h1) hroom hp
  have ho := hu.owns (w' := w') hs'.own rfl hh hkp
  refine ⟨(), w', trivial, run_builtin (vs := [.slice (some ⟨b, off, none⟩) l c, u]) (by simp [hs'.eval hs, hs'.eval hx]) (fun consts => blt_run rfl hrun), hs'.step hkp (fun b' hb' => mem_ids.2 ⟨_, hm, by simpa [Ent.ids] using hb'⟩) ho (fun b' hb' => .inl ?_)⟩
  have := Upd.ids hu rfl
  rw [this] at hb'; exact hb'
/-- no room: a new row (what is appended to need not be owned) -/
theorem Makes.grow {s x : Operand} {t tx ty el e' : TypeId} {k by' l c m : Nat} {ao : Option Addr} {z u : Value} {xs news : List Value}
    (hs : ev e s = some (.slice ao l c)) (hx : ev e x = some u) (ht : T.und t = some (.slice el)) (htx : T.und tx = some (.slice e')) (hi : T.inf el = some (k, by', z)) (hz : z.cells.toList.length = k) (hk : 0 < k)
    (hr0 : Rd w0 B L (.slice ao l c) k l xs) (hr : Rd w0 B L u k m news) (h1 : news.all Value.oneCell' = true) (hroom : c < l + m) (h63 : xs.length + news.length ≤ 4611686018427387904) (hby : (xs.length + news.length) * by' ≤ 140737488355328) :
    Makes P r w0 B n ds L (.call ⟨.builtin .append, #[s, x], #[t, tx]⟩) ty e (fun v H => H = [.sl v el k (xs ++ news)]) := by
  refine .run (by simp) fun ρ d pos af g w hρ ho hkp => ?_
  obtain ⟨i, hi1, hi2, hi3, hi4⟩ := T.hinf el k by' z hi
  have hu := T.hund _ _ ht
  have hsrc := (hr w ho hkp).src (T.hund _ _ htx) h1
  have hnl := hsrc.newsLen
  obtain ⟨ao', c', h0, h2, h3, h4⟩ := (hr0 w ho hkp).cell
  cases h0
  have hxl : l * k = xs.length := by obtain ⟨_, _, _, h, _⟩ := hr0 w ho hkp; exact h
  have hnn : l ≤ xs.length ∧ m ≤ news.length := ⟨by rw [← hxl]; exact Nat.le_mul_of_pos_right l hk, by rw [hnl]; exact Nat.le_mul_of_pos_right m hk⟩
  have hold : (Builtin.firstCells i.size l (.slice ao l c)).run P w.drew = .ok xs.toArray w.drew := by
    cases ao with
    | none =>
      obtain rfl := h4 rfl
      have : xs = [] := List.eq_nil_of_length_eq_zero (by omega)
      subst this
      exact run_firstCells_none w.drew _ _ _ _
    | some a => exact run_firstCells_some w.drew i.size l a l c xs (by rw [hi2, hxl]) (fun j u hu => h3 a rfl j u hu)
  have hs' : Src P i.size tx u m news w := by rw [hi2]; exact hsrc
  have hfit : Builtin.nextslicecap (l + m) c * i.bytes ≤ 281474976710656 := by
    refine growslice_fits (by omega) (Nat.le_trans ?_ hby)
    rw [hi3]
    exact Nat.mul_le_mul_right _ (Nat.add_le_add hnn.1 hnn.2)
  have hrun := run_append_grow_src (P := P) w t tx ty el i z hu hi1 hi4 ao l c xs hold u m news hs' (by omega) (by omega) hfit
  have hge := grownCap_ge w (l + m) c el
  have k2 := push_kept w.drew (.cells ((xs ++ news).toArray ++ Builtin.zeroCells z.cells (grownCap w (l + m) c el - (l + m))) el) rfl
  have hk3 : Kept [] w (w.drew.alloc (.cells ((xs ++ news).toArray ++ Builtin.zeroCells z.cells (grownCap w (l + m) c el - (l + m))) el)) := ((Kept.drawn [] w (w.drawn + 1)).trans k2 (fun b hb => by cases hb)).mono (fun b hb => by cases hb)
  refine ⟨_, _, _, run_builtin (vs := [.slice ao l c, u]) (by simp [hρ s (by simp [Op.operands, Call.operands]) _ hs, hρ x (by simp [Op.operands, Call.operands]) _ hx]) (fun consts => blt_run rfl hrun), rfl, hk3, ⟨fun y hy => ?_, ?_⟩, ?_⟩
  · obtain rfl := List.mem_singleton.1 hy
    refine ⟨_, l + m, grownCap w (l + m) c el, rfl, by rw [Nat.add_mul, hxl, List.length_append, hnl], hge, .inr ⟨w.heap.size, (xs ++ news) ++ zerosL z.cells.toList (grownCap w (l + m) c el - (l + m)), rfl, ?_, ?_, ?_⟩⟩
    · refine (heap_alloc_new w.drew _).trans ?_
      rw [zeroCells_eq]
      simp
    · refine Nat.le_of_eq ?_
      rw [List.length_append, zerosL_length, hz, List.length_append, hnl, ← hxl, ← Nat.add_mul, ← Nat.add_mul]
      congr 1; omega
    · exact List.take_left
  · obtain ⟨c', hc'⟩ : ∃ c', grownCap w (l + m) c el = c' + 1 := ⟨grownCap w (l + m) c el - 1, by omega⟩
    simp [X.ids, Ent.ids, hc', slIds]
  · obtain ⟨c', hc'⟩ : ∃ c', grownCap w (l + m) c el = c' + 1 := ⟨grownCap w (l + m) c el - 1, by omega⟩
    simp [X.ids, Ent.ids, hc', slIds]
theorem run_clear {t ty el : TypeId} {k by' b off m c : Nat} {z : Value} {cs cs' : List Value} {tt : TypeId} {w : World} (ht : T.und t = some (.slice el)) (hi : T.inf el = some (k, by', z)) (hz : z.cells.toList.all Value.oneCell' = true)
    (hb : w.heap[b]? = some (.cells cs.toArray tt (0, 0))) (hp : SplL cs off (zerosL z.cells.toList m) cs') :
    ∃ w', (Builtin.clear_ #[t] ty #[.slice (some ⟨b, off, none⟩) m c]).run P w = .ok (.tuple #[]) w' ∧ w'.heap[b]? = some (.cells cs'.toArray tt (0, 0)) ∧ Kept [b] w w' := by
  have hu := T.hund _ _ ht
  have hone : ∀ q, (zerosL z.cells.toList q).all Value.oneCell' = true := fun q => by
    induction q with
    | zero => rfl
    | succ q ih => simp only [zerosL, List.all_append, hz, ih, Bool.and_self]
  obtain ⟨w', hr, hh, hkp⟩ := run_storeCells (P := P) hb hp (hone m)
  cases m with
  | zero =>
    simp only [zerosL, storeCells] at hr
    have : w' = w := by simpa using hr.symm
    subst this
    exact ⟨w', by simp [Builtin.clear_, run_underlying hu], hh, hkp⟩
  | succ m =>
    refine ⟨w', ?_, hh, hkp⟩
    have e1 : (Builtin.zeroCells z.cells (m + 1)).toList = zerosL z.cells.toList (m + 1) := by rw [zeroCells_eq]
    simp [Builtin.clear_, run_underlying hu, run_zero hi, e1, hr]
theorem XL.clear {ops : Array Oper} {rest : List Oper} {x : Operand} {t ty el : TypeId} {pos : String} {af : Array Edge} {k by' m b off c : Nat} {z : Value} {tt : TypeId} {cs cs' : List Value} {L' : Heap}
    (hx : ev e x = some (.slice (some ⟨b, off, none⟩) m c)) (ht : T.und t = some (.slice el)) (hi : T.inf el = some (k, by', z)) (hz : z.cells.toList.all Value.oneCell' = true)
    (hm : Ent.blk b cs tt ∈ L) (hp : SplL cs off (zerosL z.cells.toList m) cs') (hu : Upd L (.blk b cs tt) (.blk b cs' tt) L')
    (h : XL P r w0 B n ops rest Q e ds L') : XL P r w0 B n ops (⟨none, .call ⟨.builtin .clear, #[x], #[t]⟩, ty, pos, af, none⟩ :: rest) Q e ds L := by
  refine ⟨fun a w hs' => ?_⟩
  obtain ⟨w', hrun, hh, hkp⟩ := run_clear (ty := ty) (c := c) ht hi hz (hs'.own.ok _ hm) hp
  have ho := hu.owns (w' := w') hs'.own rfl hh hkp
  refine wpListIn_plain rfl (fun K hK => ⟨fun _ _ => trivial, ?_⟩)
  simp only [FW_round]
  rw [semAt_of r _ _ (by simp), run_builtin (vs := [.slice (some ⟨b, off, none⟩) m c]) (by simp [hs'.eval hx]) (fun consts => blt_run rfl hrun)]
  refine hK _ _ (h.run _ _ (hs'.step hkp (fun b' hb' => mem_ids.2 ⟨_, hm, by simpa [Ent.ids] using hb'⟩) ho (fun b' hb' => .inl ?_)))
  have := Upd.ids hu rfl
  rw [this] at hb'; exact hb'

/-! ### Several entries as one -/
def grp (G : Heap) : Ent := .abs (X.ids G) (fun w => Owns w G)
omit T in
theorem grp_ids (G : Heap) : (grp G).ids = X.ids G := rfl
omit T in
theorem Sit.openG {G : Heap} {a : Act} {w : World} (h : Sit w0 B n e ds (grp G :: L) a w) : Sit w0 B n e ds (G ++ L) a w := by
  have hid : X.ids (grp G :: L) = X.ids (G ++ L) := by rw [ids_append]; rfl
  have hG : Owns w G := (h.own.ok (grp G) (.head _)).1 w (fun _ _ => rfl)
  exact ⟨h.sz, h.df, h.env, ⟨fun x hx => (List.mem_append.1 hx).elim (hG.ok x) (fun hx => h.own.ok x (.tail _ hx)), hid ▸ h.own.nd⟩, h.kept, fun b hb => h.wr b (hid ▸ hb)⟩
omit T in
theorem Sit.shutG {G : Heap} {a : Act} {w : World} (h : Sit w0 B n e ds (G ++ L) a w) : Sit w0 B n e ds (grp G :: L) a w := by
  have hid : X.ids (grp G :: L) = X.ids (G ++ L) := by rw [ids_append]; rfl
  refine ⟨h.sz, h.df, h.env, ⟨fun x hx => ?_, hid ▸ h.own.nd⟩, h.kept, fun b hb => h.wr b (hid ▸ hb)⟩
  rcases List.mem_cons.1 hx with rfl | hx
  · refine ⟨fun w' hw' => ⟨fun x hx => Ent.ok_of_same (h.own.left.ok x hx) (fun b hb => hw' b (mem_ids.2 ⟨x, hx, hb⟩)), h.own.left.nd⟩, h.own.left.live⟩
  · exact h.own.ok x (List.mem_append_right _ hx)
omit T in
theorem XC.openG {c : Code} {G : Heap} (h : XC P r w0 B n c Q e ds (G ++ L)) : XC P r w0 B n c Q e ds (grp G :: L) := ⟨fun a w hs => h.run a w hs.openG⟩
omit T in
theorem XC.shutG {c : Code} {G : Heap} (h : XC P r w0 B n c Q e ds (grp G :: L)) : XC P r w0 B n c Q e ds (G ++ L) := ⟨fun a w hs => h.run a w hs.shutG⟩
omit T in
theorem XL.openG {ops : Array Oper} {l : List Oper} {G : Heap} (h : XL P r w0 B n ops l Q e ds (G ++ L)) : XL P r w0 B n ops l Q e ds (grp G :: L) := ⟨fun a w hs => h.run a w hs.openG⟩
omit T in
theorem XL.shutG {ops : Array Oper} {l : List Oper} {G : Heap} (h : XL P r w0 B n ops l Q e ds (grp G :: L)) : XL P r w0 B n ops l Q e ds (G ++ L) := ⟨fun a w hs => h.run a w hs.shutG⟩
omit T in
theorem XE.openG {ex : Exit} {G : Heap} (h : XE w0 B n ex Q e ds (G ++ L)) : XE w0 B n ex Q e ds (grp G :: L) := ⟨fun a w hs => h.run a w hs.openG⟩
omit T in
theorem XE.shutG {ex : Exit} {G : Heap} (h : XE w0 B n ex Q e ds (grp G :: L)) : XE w0 B n ex Q e ds (G ++ L) := ⟨fun a w hs => h.run a w hs.shutG⟩
omit T in
/-- choosing entries by their places -/
theorem XC.pk {c : Code} {M : Heap} (is : List Nat) (hn : decide is.Nodup = true) (hp : pick L is = M) (h : XC P r w0 B n c Q e ds M) : XC P r w0 B n c Q e ds L := ⟨fun a w hs => h.run a w (hp ▸ hs.pick (of_decide_eq_true hn))⟩
omit T in
theorem XL.pk {ops : Array Oper} {l : List Oper} {M : Heap} (is : List Nat) (hn : decide is.Nodup = true) (hp : pick L is = M) (h : XL P r w0 B n ops l Q e ds M) : XL P r w0 B n ops l Q e ds L := ⟨fun a w hs => h.run a w (hp ▸ hs.pick (of_decide_eq_true hn))⟩
omit T in
theorem XE.pk {ex : Exit} {M : Heap} (is : List Nat) (hn : decide is.Nodup = true) (hp : pick L is = M) (h : XE w0 B n ex Q e ds M) : XE w0 B n ex Q e ds L := ⟨fun a w hs => h.run a w (hp ▸ hs.pick (of_decide_eq_true hn))⟩
omit T in
/-- entries reordered, some left -/
theorem XC.re {c : Code} {M : Heap} (N : Heap) (hp : List.Perm L (M ++ N)) (h : XC P r w0 B n c Q e ds M) : XC P r w0 B n c Q e ds L := ⟨fun a w hs => h.run a w ((hs.perm hp).subl (List.sublist_append_left _ _))⟩
omit T in
theorem XL.re {ops : Array Oper} {l : List Oper} {M : Heap} (N : Heap) (hp : List.Perm L (M ++ N)) (h : XL P r w0 B n ops l Q e ds M) : XL P r w0 B n ops l Q e ds L := ⟨fun a w hs => h.run a w ((hs.perm hp).subl (List.sublist_append_left _ _))⟩
omit T in
theorem XE.re {ex : Exit} {M : Heap} (N : Heap) (hp : List.Perm L (M ++ N)) (h : XE w0 B n ex Q e ds M) : XE w0 B n ex Q e ds L := ⟨fun a w hs => h.run a w ((hs.perm hp).subl (List.sublist_append_left _ _))⟩
omit T in
/-- the last entries as one -/
theorem XE.all {ex : Exit} (h : XE w0 B n ex Q e ds [grp L]) : XE w0 B n ex Q e ds L := ⟨fun a w hs => h.run a w (Sit.shutG (L := []) (by rw [List.append_nil]; exact hs))⟩
omit T in
theorem XL.all {ops : Array Oper} {l : List Oper} (h : XL P r w0 B n ops l Q e ds [grp L]) : XL P r w0 B n ops l Q e ds L := ⟨fun a w hs => h.run a w (Sit.shutG (L := []) (by rw [List.append_nil]; exact hs))⟩
omit T in
theorem Rd.grp {G : Heap} {v : Value} {k m : Nat} {xs : List Value} (hm : X.grp G ∈ L) (h : Rd w0 B G v k m xs) : Rd w0 B L v k m xs := fun w ho hk => h w ((ho.ok _ hm).1 w (fun _ _ => rfl)) hk
omit T in
theorem Owns.grp {G : Heap} {w : World} (hm : X.grp G ∈ L) (ho : Owns w L) : Owns w G := (ho.ok _ hm).1 w (fun _ _ => rfl)
omit T in
theorem XC.open1 {c : Code} {G : Heap} (h : XC P r w0 B n c Q e ds G) : XC P r w0 B n c Q e ds [grp G] := .openG (by rw [List.append_nil]; exact h)
omit T in
theorem XL.open1 {ops : Array Oper} {l : List Oper} {G : Heap} (h : XL P r w0 B n ops l Q e ds G) : XL P r w0 B n ops l Q e ds [grp G] := .openG (by rw [List.append_nil]; exact h)
/-! ### An own slice is a slice value -/
omit T in
theorem Sit.slv {a : Act} {w : World} {v : Value} {t : TypeId} {k : Nat} {xs : List Value} (h : Sit w0 B n e ds L a w) (hm : Ent.sl v t k xs ∈ L) : ∃ ao l c, v = .slice ao l c ∧ l * k = xs.length ∧ l ≤ c := by
  obtain ⟨ao, l, c, rfl, h1, h2, _⟩ := h.own.ok _ hm
  exact ⟨ao, l, c, rfl, h1, h2⟩
omit T in
theorem XC.slv {c : Code} {v : Value} {t : TypeId} {k : Nat} {xs : List Value} (hm : Ent.sl v t k xs ∈ L) (h : ∀ ao l m, v = .slice ao l m → l * k = xs.length → l ≤ m → XC P r w0 B n c Q e ds L) : XC P r w0 B n c Q e ds L :=
  ⟨fun a w hs => by obtain ⟨ao, l, m, h1, h2, h3⟩ := hs.slv hm; exact (h ao l m h1 h2 h3).run a w hs⟩
omit T in
theorem XL.slv {ops : Array Oper} {l : List Oper} {v : Value} {t : TypeId} {k : Nat} {xs : List Value} (hm : Ent.sl v t k xs ∈ L) (h : ∀ ao q m, v = .slice ao q m → q * k = xs.length → q ≤ m → XL P r w0 B n ops l Q e ds L) : XL P r w0 B n ops l Q e ds L :=
  ⟨fun a w hs => by obtain ⟨ao, q, m, h1, h2, h3⟩ := hs.slv hm; exact (h ao q m h1 h2 h3).run a w hs⟩
omit T in
theorem XE.slv {ex : Exit} {v : Value} {t : TypeId} {k : Nat} {xs : List Value} (hm : Ent.sl v t k xs ∈ L) (h : ∀ ao q m, v = .slice ao q m → q * k = xs.length → q ≤ m → XE w0 B n ex Q e ds L) : XE w0 B n ex Q e ds L :=
  ⟨fun a w hs => by obtain ⟨ao, q, m, h1, h2, h3⟩ := hs.slv hm; exact (h ao q m h1 h2 h3).run a w hs⟩
/-! ### Places in lists of entries -/
omit T in
theorem Upd.mapSet {α : Type} {f : α → Ent} : ∀ {ps : List α} {j : Nat} {p q : α}, ps[j]? = some p → Upd (ps.map f) (f p) (f q) ((ps.set j q).map f)
  | [], j, p, q, h => by simp at h
  | x :: ps, 0, p, q, h => by simp at h; subst h; exact .here
  | x :: ps, j + 1, p, q, h => .there (Upd.mapSet (by simpa using h))
end
end Go.X
