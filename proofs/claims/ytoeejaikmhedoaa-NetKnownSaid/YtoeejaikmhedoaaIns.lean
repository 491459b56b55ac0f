/- Inserting into slices: an append of so many zero values; two slices that do not overlap. -/
import Derived.Test.YtoeejaikmhedoaaCopy
import Derived.Lib.Overlaps
import Derived.Lib.AppendZerosOnto
namespace Go.X
open Go
section
variable {P : Program} {r : Option Nat} {w0 : World} {B : List Nat} {n : Nat} {Q : Post} {e : Env} {ds : List Deferred} {L : Heap} [T : Tab P]
theorem shape_of {w : World} {b : Nat} {cs : List Value} {t : TypeId} (h : w.heap[b]? = some (.cells cs.toArray t (0, 0))) : w.shape? b = some (t, cs.length) := by
  simp [World.shape?, h]
theorem frz_of {w : World} {b o : Nat} {cs : List Value} {t : TypeId} (h : w.heap[b]? = some (.cells cs.toArray t (0, 0))) : w.frozen? ⟨b, o, none⟩ = false := by
  simp [World.frozen?, h]
/-- append(s[:i], make([]T, k)...) where there is no room -/
theorem Makes.growZ {s x : Operand} {t tx ty el : TypeId} {k by' l c m : Nat} {kq kn : IntKind} {ao : Option Addr} {z : Value} {xs : List Value}
    (hs : ev e s = some (.slice ao l c)) (hx : ev e x = some (.int kq (m : Int))) (ht : T.und t = some (.slice el)) (htx : T.und tx = some (.int kn)) (hi : T.inf el = some (k, by', z)) (hk : 0 < k)
    (hr0 : Rd w0 B L (.slice ao l c) k l xs) (hm : 0 < m) (hroom : c < l + m) (hby : (l + m) * by' ≤ 140737488355328) (h63 : l + m ≤ 4611686018427387904) :
    Makes P r w0 B n ds L (.call ⟨.builtin .append, #[s, x], #[t, tx]⟩) ty e (fun v H => ∃ b cap, v = .slice (some ⟨b, 0, none⟩) (l + m) cap ∧ l + m ≤ cap ∧ cap ≤ 9223372036854775807 ∧ H = [.blk b (xs ++ zerosL z.cells.toList m ++ zerosL z.cells.toList (cap - (l + m))) el]) := by
  refine .run (by simp) fun ρ d pos af g w hρ ho hkp => ?_
  obtain ⟨i, hi1, hi2, hi3, hi4⟩ := T.hinf el k by' z hi
  have hu := T.hund _ _ ht
  obtain ⟨ao', c', h0, h2, h3, h4⟩ := (hr0 w ho hkp).cell
  cases h0
  have hxl : l * k = xs.length := by obtain ⟨_, _, _, h, _⟩ := hr0 w ho hkp; exact h
  have hold : (Builtin.firstCells i.size l (.slice ao l c)).run P w.drew = .ok xs.toArray w.drew := by
    cases ao with
    | none =>
      obtain rfl := h4 rfl
      have : xs = [] := List.eq_nil_of_length_eq_zero (by omega)
      subst this
      exact run_firstCells_none w.drew _ _ _ _
    | some a => exact run_firstCells_some w.drew i.size l a l c xs (by rw [hi2, hxl]) (fun j u hu => h3 a rfl j u hu)
  have hmb : m * i.bytes ≤ 281474976710656 := by
    rw [hi3]
    have := Nat.mul_le_mul_right by' (Nat.le_add_left m l)
    omega
  have hfit : Builtin.nextslicecap (l + m) c * i.bytes ≤ 281474976710656 := by
    refine growslice_fits (by omega) ?_
    rw [hi3]; exact hby
  have hrun := Lib.run_append_grow_zeros (P := P) w t tx ty el i z kq kn hu (T.hund _ _ htx) hi1 hi4 ao l c xs hold m hm (by rw [hi2]; exact hk) (by omega) (by omega) hmb hfit
  have hge := grownCap_ge w (l + m) c el
  have hle := grownCap_le_maxLen w (l + m) c el (by unfold maxLen; omega)
  unfold maxLen at hle
  rw [zeroCells_eq, zeroCells_eq, List.append_toArray, List.append_toArray] at hrun
  have k2 := push_kept w.drew (.cells (xs ++ zerosL z.cells.toList m ++ zerosL z.cells.toList (grownCap w (l + m) c el - (l + m))).toArray el) rfl
  have hk3 : Kept [] w (w.drew.alloc (.cells (xs ++ zerosL z.cells.toList m ++ zerosL z.cells.toList (grownCap w (l + m) c el - (l + m))).toArray el)) := ((Kept.drawn [] w (w.drawn + 1)).trans k2 (fun b hb => by cases hb)).mono (fun b hb => by cases hb)
  refine ⟨_, [.blk w.heap.size (xs ++ zerosL z.cells.toList m ++ zerosL z.cells.toList (grownCap w (l + m) c el - (l + m))) el], _, run_builtin (vs := [.slice ao l c, .int kq m]) (by simp [hρ s (by simp [Op.operands, Call.operands]) _ hs, hρ x (by simp [Op.operands, Call.operands]) _ hx]) (fun consts => blt_run rfl hrun),
    ⟨w.heap.size, grownCap w (l + m) c el, rfl, hge, by omega, rfl⟩, hk3, push_owns w.drew _ el, fun b hb => ?_⟩
  simp [X.ids, Ent.ids] at hb
  omega
/-- two slices in two blocks do not overlap -/
theorem Quiet.apart {x y g : Operand} {tys : Array TypeId} {ty : TypeId} {fid : FuncId} {fn : Func} {tS tR el : TypeId} {b b' off off' l c l' c' k by' : Nat} {z : Value} {cs cs' : List Value} {t t' : TypeId}
    (hg : ev e g = some (.func (.func fid) #[] #[])) (hx : ev e x = some (.slice (some ⟨b, off, none⟩) l c)) (hy : ev e y = some (.slice (some ⟨b', off', none⟩) l' c'))
    (hf : P.funcs[fid]? = some fn) (hname : (fn.name == "runtime.NumGoroutine") = false) (hb : fn.body.isNone = true) (hn : Extern.findNext fn = none) (he : Extern.find fn = some (Extern.SlicesOverlaps.overlaps #[tS, tS] #[tR]))
    (ht : T.und tS = some (.slice el)) (hi : T.inf el = some (k, by', z)) (hm : Ent.blk b cs t ∈ L) (hm' : Ent.blk b' cs' t' ∈ L) (hne : b ≠ b') (hl : 0 < cs'.length) :
    Quiet P r w0 B n ds L (.call ⟨.value g, #[x, y], tys⟩) ty e (.bool false) :=
  .run (by simp) fun ρ d pos af g' w hρ ho _ => by
    obtain ⟨i, hi1, hi2, hi3, hi4⟩ := T.hinf el k by' z hi
    have h1 := ho.ok _ hm
    have h2 := ho.ok _ hm'
    have hsz : ∀ w, (Go.sizeOf el).run P w = .ok k w := fun w => by
      simp [Go.sizeOf, typeInfo, hi1, hi2]
    have hr := Lib.run_overlaps_apart (P := P) w tS tR el (T.hund _ _ ht) k hsz ⟨b, off, none⟩ ⟨b', off', none⟩ l c l' c' hne t t' cs.length cs'.length (shape_of h1) (shape_of h2) (by omega) (frz_of h1) (frz_of h1)
    have e1 : ρ g = .func (.func fid) #[] #[] := hρ g (by simp [Op.operands, Call.operands]) _ hg
    have e2 : ρ x = .slice (some ⟨b, off, none⟩) l c := hρ x (by simp [Op.operands, Call.operands]) _ hx
    have e3 : ρ y = .slice (some ⟨b', off', none⟩) l' c' := hρ y (by simp [Op.operands, Call.operands]) _ hy
    have hc := run_callFunc_extern hf hname hb hn he #[.slice (some ⟨b, off, none⟩) l c, .slice (some ⟨b', off', none⟩) l' c'] w
    rw [hr] at hc
    simp [execOp, resolve, e1, e2, e3, Deferred.ofValue, Result.andThen, invoke, hc]
omit T in
/-- what a situation says -/
theorem XL.sit {ops : Array Oper} {l : List Oper} {p : Prop} (h : ∀ a w, Sit w0 B n e ds L a w → p) (h' : p → XL P r w0 B n ops l Q e ds L) : XL P r w0 B n ops l Q e ds L := ⟨fun a w hs => (h' (h a w hs)).run a w hs⟩
omit T in
theorem XC.sit {c : Code} {p : Prop} (h : ∀ a w, Sit w0 B n e ds L a w → p) (h' : p → XC P r w0 B n c Q e ds L) : XC P r w0 B n c Q e ds L := ⟨fun a w hs => (h' (h a w hs)).run a w hs⟩
theorem SplL.app {A Z news : List Value} (h : news.length ≤ Z.length) : SplL (A ++ Z) A.length news (A ++ (news ++ Z.drop news.length)) := by
  refine ⟨by rw [List.length_append]; omega, ?_⟩
  rw [List.take_left, ← List.drop_drop, List.drop_left, List.append_assoc]
theorem Quiet.capL {x : Operand} {ty t el : TypeId} {a : Option Addr} {m c : Nat} (hx : ev e x = some (.slice a m c)) (ht : T.und t = some (.slice el)) :
    Quiet P r w0 B n ds L (.call ⟨.builtin .cap, #[x], #[t]⟩) ty e (.int .i64 (c : Int)) :=
  .blt (vs := [.slice a m c]) (by simp only [evs, hx]) fun consts w => blt_run rfl (by
    simp [Builtin.cap_, Sem.run_bind, run_und ht, Result.andThen, goInt])
/-- copy out of a row that has more -/
theorem XL.copyS {ops : Array Oper} {rest : List Oper} {d : Nat} {s x : Operand} {t tx ty el : TypeId} {pos : String} {af : Array Edge} {k by' m b off l c b2 o2 c2 : Nat} {z : Value} {tt tt2 : TypeId} {cs cs2 cs' news : List Value} {L' : Heap}
    (hs : ev e s = some (.slice (some ⟨b, off, none⟩) l c)) (hx : ev e x = some (.slice (some ⟨b2, o2, none⟩) m c2)) (ht : T.und t = some (.slice el)) (hi : T.inf el = some (k, by', z))
    (hm : Ent.blk b cs tt ∈ L) (hm2 : Ent.blk b2 cs2 tt2 ∈ L) (hcut : X.cut cs2 o2 news.length = some news) (hn : news.length = l * k) (hle : l ≤ m) (h1 : news.all Value.oneCell' = true) (hp : SplL cs off news cs')
    (hu : Upd L (.blk b cs tt) (.blk b cs' tt) L') (hd : Nat.blt d n = true)
    (h : XL P r w0 B n ops rest Q ((d, .int .i64 (l : Int)) :: e) ds L') : XL P r w0 B n ops (⟨some d, .call ⟨.builtin .copy, #[s, x], #[t, tx]⟩, ty, pos, af, none⟩ :: rest) Q e ds L := by
  refine XL.valX (φ := fun _ : Unit => True) (v := fun _ => .int .i64 (l : Int)) (L' := fun _ => L') hd (by simp) (fun a w hs' => ?_) (fun _ _ => h)
  have hut := T.hund _ _ ht
  obtain ⟨i, hi1, hi2, hi3, hi4⟩ := T.hinf el k by' z hi
  have hb2 := hs'.own.ok _ hm2
  have hcells : ∀ j u, news[j]? = some u → w.cell? ((⟨b2, o2, none⟩ : Addr).add j) = some u := fun j u hj => by
    have hb2' : w.heap[b2]? = some (.cells cs2.toArray tt2 (0, 0)) := hb2
    rw [show (⟨b2, o2, none⟩ : Addr).add j = ⟨b2, o2 + j, none⟩ by simp [Addr.add]]
    rw [cell_of hb2']
    exact cut_all hcut j u hj
  obtain ⟨w', hr, hh, hkp⟩ := run_storeCells (P := P) (hs'.own.ok _ hm) hp h1
  have hc : (Builtin.firstCells i.size l (.slice (some ⟨b2, o2, none⟩) m c2)).run P w = .ok news.toArray w := run_firstCells_some w i.size l _ m c2 news (by rw [hi2]; exact hn) hcells
  have hmn : Nat.min m l = l := Nat.min_eq_right hle
  have hrun : (Builtin.copy_ #[t, tx] ty #[.slice (some ⟨b, off, none⟩) l c, .slice (some ⟨b2, o2, none⟩) m c2]).run P w = .ok (.int .i64 (l : Int)) w' := by
    simp [Builtin.copy_, run_underlying hut, sizeOf, typeInfo, hi1, Builtin.lenOf, hmn, hc, hr, goInt]
  refine ⟨(), w', trivial, ?_, hs'.step hkp (fun b' hb' => mem_ids.2 ⟨_, hm, by simpa [Ent.ids] using hb'⟩) (hu.owns hs'.own rfl hh hkp) (fun b' hb' => .inl (by rw [hu.ids rfl] at hb'; exact hb'))⟩
  exact run_builtin (vs := [.slice (some ⟨b, off, none⟩) l c, .slice (some ⟨b2, o2, none⟩) m c2]) (by simp [hs'.eval hs, hs'.eval hx]) (fun consts => blt_run rfl hrun)
omit T in
theorem cut_pre {cs xs : List Value} {off n' : Nat} (h : X.cut cs off xs.length = some xs) (hn : n' ≤ xs.length) : X.cut cs off n' = some (xs.take n') := by
  by_cases h0 : xs = []
  · subst h0
    obtain rfl : n' = 0 := by simpa using hn
    exact h
  obtain ⟨h1, h2⟩ := cut_eq h
  have h3 : xs.length ≠ 0 := fun e => h0 (List.eq_nil_of_length_eq_zero e)
  rw [cut_some (by omega), h2, List.take_take, Nat.min_eq_left hn]
omit T in
theorem cut_suf {cs xs : List Value} {off n' : Nat} (h : X.cut cs off xs.length = some xs) (hn : n' ≤ xs.length) : X.cut cs (off + n') (xs.length - n') = some (xs.drop n') := by
  by_cases h0 : xs = []
  · subst h0
    obtain rfl : n' = 0 := by simpa using hn
    exact h
  obtain ⟨h1, h2⟩ := cut_eq h
  have h3 : xs.length ≠ 0 := fun e => h0 (List.eq_nil_of_length_eq_zero e)
  rw [cut_some (by omega)]
  congr 1
  conv => rhs; rw [h2]
  rw [List.drop_take, List.drop_drop]
omit T in
/-- the first i elements -/
theorem RowAt.hd {w : World} {ao : Option Addr} {k m c i : Nat} {xs : List Value} (h : RowAt w (.slice ao m c) k m xs) (hi : i ≤ m) : RowAt w (.slice ao i c) k i (xs.take (i * k)) := by
  obtain ⟨ao', c', hv, h1, h2, h3⟩ := h
  cases hv
  have hik : i * k ≤ xs.length := by rw [← h1]; exact Nat.mul_le_mul_right k hi
  refine ⟨ao, c, rfl, by rw [List.length_take, Nat.min_eq_left hik], by omega, ?_⟩
  rcases h3 with rfl | ⟨b, off, cs, t, fz, rfl, hh, hcut⟩
  · exact .inl (by omega)
  · refine .inr ⟨b, off, cs, t, fz, rfl, hh, ?_⟩
    rw [List.length_take, Nat.min_eq_left hik]; exact cut_pre hcut hik
/-- the value of the elements from i on -/
def tlV (v : Value) (i s : Nat) : Value := match v with
  | .slice (some ⟨b, o, none⟩) (m + 1) c => .slice (some (cutAt b o s c i)) (m + 1 - i) (c - i)
  | v => v
omit T in
theorem RowAt.tl {w : World} {v : Value} {k m i : Nat} {xs : List Value} (h : RowAt w v k m xs) (hi : i ≤ m) : RowAt w (tlV v i k) k (m - i) (xs.drop (i * k)) := by
  obtain ⟨ao, c, rfl, h1, h2, h3⟩ := h
  cases m with
  | zero =>
    obtain rfl : i = 0 := by omega
    have : tlV (.slice ao 0 c) 0 k = .slice ao 0 c := by unfold tlV; split <;> first | rfl | (rename_i h; simp at h)
    rw [this]
    exact ⟨ao, c, rfl, by rw [List.length_drop]; omega, h2, .inl rfl⟩
  | succ m =>
    rcases h3 with h3 | ⟨b, off, cs, t, fz, rfl, hh, hcut⟩
    · omega
    · have hik : i * k ≤ xs.length := by rw [← h1]; exact Nat.mul_le_mul_right k hi
      refine ⟨some (cutAt b off k c i), c - i, rfl, by rw [List.length_drop, ← h1, Nat.sub_mul], by omega, ?_⟩
      by_cases e : m + 1 - i = 0
      · exact .inl e
      · refine .inr ⟨b, off + i * k, cs, t, fz, by unfold cutAt; rw [if_neg (by omega)], hh, ?_⟩
        rw [List.length_drop]; exact cut_suf hcut hik
omit T in
theorem Rd.hd {ao : Option Addr} {k m c i : Nat} {xs : List Value} (h : Rd w0 B L (.slice ao m c) k m xs) (hi : i ≤ m) : Rd w0 B L (.slice ao i c) k i (xs.take (i * k)) := fun w ho hk => (h w ho hk).hd hi
omit T in
theorem Rd.tl {v : Value} {k m i : Nat} {xs : List Value} (h : Rd w0 B L v k m xs) (hi : i ≤ m) : Rd w0 B L (tlV v i k) k (m - i) (xs.drop (i * k)) := fun w ho hk => (h w ho hk).tl hi
/-- a[i:] of any slice that may be read -/
theorem Quiet.cutT {t ty el : TypeId} {x lo : Operand} {kk : IntKind} {ao : Option Addr} {m c i s by' : Nat} {z : Value} {xs : List Value} (hx : ev e x = some (.slice ao m c)) (hl : ev e lo = some (.int kk (i : Int))) (ht : T.und t = some (.slice el)) (hi' : T.inf el = some (s, by', z))
    (hr : Rd w0 B L (.slice ao m c) s m xs) (hi : i ≤ m) : Quiet P r w0 B n ds L (.slice t x (some lo) none none) ty e (tlV (.slice ao m c) i s) :=
  .run (by simp) fun ρ d pos af g w hρ ho hk => by
    obtain ⟨ao', c', hv, h1, h2, h3⟩ := hr w ho hk
    cases hv
    have run0 : i = 0 → (execOp ρ ⟨d, .slice t x (some lo) none none, ty, pos, af, g⟩).run P w = .ok (.value (.slice ao m c)) w := fun e0 => by
      subst e0
      simp only [execOp, hρ x (by simp [Op.operands]) _ hx, hρ lo (by simp [Op.operands]) _ hl, Option.map, Instr.sliceAt, Sem.run_bind, run_und ht, Result.andThen, Instr.slice,
        Instr.sliceBounds, Sem.run_pure, Option.isSome]
      simp only [run_bound (Nat.zero_le m), Bool.false_eq_true, if_false, run_size hi', Nat.sub_zero, Nat.zero_mul]
      cases ao with
      | none => simp
      | some a => simp [Addr.add]
    cases m with
    | zero =>
      have : tlV (.slice ao 0 c) i s = .slice ao 0 c := by unfold tlV; split <;> first | rfl | (rename_i h; simp at h)
      rw [this]; exact run0 (by omega)
    | succ m =>
      rcases h3 with h3 | ⟨b, off, cs, t', fz, rfl, hh, hcut⟩
      · omega
      · show (execOp ρ _).run P w = .ok (.value (.slice (some (cutAt b off s c i)) (m + 1 - i) (c - i))) w
        by_cases e : c = i
        · simp only [execOp, hρ x (by simp [Op.operands]) _ hx, hρ lo (by simp [Op.operands]) _ hl, Option.map, Instr.sliceAt, Sem.run_bind, run_und ht, Result.andThen, Instr.slice,
            Instr.sliceBounds, Sem.run_pure, Option.isSome]
          simp only [run_bound hi, Bool.false_eq_true, if_false, run_size hi', cutAt, if_pos e, add_none]
        · simp only [execOp, hρ x (by simp [Op.operands]) _ hx, hρ lo (by simp [Op.operands]) _ hl, Option.map, Instr.sliceAt, Sem.run_bind, run_und ht, Result.andThen, Instr.slice,
            Instr.sliceBounds, Sem.run_pure, Option.isSome]
          simp only [run_bound hi, Bool.false_eq_true, if_false, run_size hi', cutAt, if_neg e, add_none]
end
end Go.X
