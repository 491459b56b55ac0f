/- Arguments opened: what the cells of a value are, by its type. -/
import Derived.Test.YtmmofanfgoahkaaDoorRow
import Derived.Carry
import Derived.OpenShut
import Derived.ShutString
import Derived.Deep.Slices
namespace Go.X
open Go Go.RowKit Go.ChangeShapes Go.WideShapes

theorem Kept.below {w w' : World} (k : Kept [] w w') : Go.RowKit.Below w.heap.size w w' := ⟨k.os, k.tape, k.output, k.size, fun b hb => k.same b hb (by simp)⟩

theorem len1 {l : List Value} (h : l.length = 1) : ∃ a0, l = [a0] := by
  match l, h with
  | [a0], _ => exact ⟨_, rfl⟩
theorem len2 {l : List Value} (h : l.length = 2) : ∃ a0 a1, l = [a0, a1] := by
  match l, h with
  | [a0, a1], _ => exact ⟨_, _, rfl⟩
theorem len3 {l : List Value} (h : l.length = 3) : ∃ a0 a1 a2, l = [a0, a1, a2] := by
  match l, h with
  | [a0, a1, a2], _ => exact ⟨_, _, _, rfl⟩
theorem len4 {l : List Value} (h : l.length = 4) : ∃ a0 a1 a2 a3, l = [a0, a1, a2, a3] := by
  match l, h with
  | [a0, a1, a2, a3], _ => exact ⟨_, _, _, _, rfl⟩
theorem len5 {l : List Value} (h : l.length = 5) : ∃ a0 a1 a2 a3 a4, l = [a0, a1, a2, a3, a4] := by
  match l, h with
  | [a0, a1, a2, a3, a4], _ => exact ⟨_, _, _, _, _, rfl⟩
theorem len6 {l : List Value} (h : l.length = 6) : ∃ a0 a1 a2 a3 a4 a5, l = [a0, a1, a2, a3, a4, a5] := by
  match l, h with
  | [a0, a1, a2, a3, a4, a5], _ => exact ⟨_, _, _, _, _, _, rfl⟩
theorem len7 {l : List Value} (h : l.length = 7) : ∃ a0 a1 a2 a3 a4 a5 a6, l = [a0, a1, a2, a3, a4, a5, a6] := by
  match l, h with
  | [a0, a1, a2, a3, a4, a5, a6], _ => exact ⟨_, _, _, _, _, _, _, rfl⟩
theorem len8 {l : List Value} (h : l.length = 8) : ∃ a0 a1 a2 a3 a4 a5 a6 a7, l = [a0, a1, a2, a3, a4, a5, a6, a7] := by
  match l, h with
  | [a0, a1, a2, a3, a4, a5, a6, a7], _ => exact ⟨_, _, _, _, _, _, _, _, rfl⟩
/-- the kinds of cells -/
inductive K where
  | int (k : IntKind)
  | bool
  | str
  | sl (e : TypeId)
/-- the cells of a type: where each lies, and of what kind it is -/
def flat (P : Program) : Nat → TypeId → Option (List (Nat × K))
  | 0, _ => none
  | d + 1, t =>
    match P.underlying t with
    | some (.int k) => some [(0, .int k)]
    | some .bool => some [(0, .bool)]
    | some .string => some [(0, .str)]
    | some (.slice e) => some [(0, .sl e)]
    | some (.struct fs) => (fs.toList.mapM fun f => (flat P d f.type).map fun l => l.map fun p => (f.offset + p.1, p.2)).map List.flatten
    | some (.array n e) => (flat P d e).map fun l => (List.range n).flatMap fun i => l.map fun p => (i * P.cellsOf e + p.1, p.2)
    | _ => none

section
variable {H : Type} {enc : TypeId × Value → H} {P : Program} {w : World} {base : Nat} {spare : Nat → Bool} {held : Bool}
/-- what stands in a cell of a kind -/
def KOk (enc : TypeId × Value → H) (P : Program) (w : World) (base : Nat) (spare : Nat → Bool) (held : Bool) : K → Value → Prop
  | .int k, v => ∃ n, v = .int k n ∧ (Lit.int k n).wf = true
  | .bool, v => ∃ b, v = .bool b
  | .str, v => ∃ s, v = .string s ∧ s.size ≤ maxLen
  | .sl e, v => v = .slice none 0 0 ∨ ∃ (a : Addr) (len cap : Nat), v = .slice (some a) len cap ∧ len ≤ cap ∧ cap ≤ maxLen ∧ base ≤ a.block ∧ ∀ i, i < len → ∃ cs fuel x, w.cells? base (a.add (i * P.cellsOf e)) (P.cellsOf e) = some cs ∧ DataW.trod enc P w base spare held fuel e cs = some x

theorem sub_get {cs : List Value} {o m j : Nat} {v : Value} (h : ((cs.drop o).take m)[j]? = some v) : cs[o + j]? = some v := by
  rw [List.getElem?_take] at h
  split at h
  · rwa [List.getElem?_drop] at h
  · cases h
theorem mapM_mem {α β : Type} {f : α → Option β} : ∀ {l : List α} {ys : List β}, l.mapM f = some ys → ∀ y ∈ ys, ∃ (i : Nat) (x : α), l[i]? = some x ∧ f x = some y
  | [], ys, h, y, hy => by simp at h; subst h; simp at hy
  | a :: l, ys, h, y, hy => by
    rw [List.mapM_cons] at h
    cases ha : f a with
    | none => rw [ha] at h; cases h
    | some b =>
      rw [ha] at h
      cases hl : l.mapM f with
      | none => rw [hl] at h; cases h
      | some bs =>
        rw [hl] at h
        have : b :: bs = ys := Option.some.inj h
        subst this
        rcases List.mem_cons.1 hy with rfl | hy
        · exact ⟨0, a, rfl, ha⟩
        · obtain ⟨i, x, h1, h2⟩ := mapM_mem hl y hy
          exact ⟨i + 1, x, h1, h2⟩
theorem flat_ok : ∀ (d : Nat) {t : TypeId} {l : List (Nat × K)} {fuel : Nat} {cs : List Value} {x : DataW H × List MemPlace}, flat P d t = some l → DataW.trod enc P w base spare held fuel t cs = some x →
    ∀ p ∈ l, ∃ v, cs[p.1]? = some v ∧ KOk enc P w base spare held p.2 v
  | 0, _, _, _, _, _, h, _, _, _ => by cases h
  | d + 1, t, l, fuel, cs, x, h, ht, p, hp => by
    unfold flat at h
    split at h
    · rename_i k hu
      cases h
      obtain ⟨n, rfl, _, hw⟩ := DataW.trod_int hu ht
      simp at hp; subst hp
      exact ⟨_, rfl, n, rfl, hw⟩
    · rename_i hu
      cases h
      obtain ⟨b, rfl, _⟩ := DataW.trod_bool hu ht
      simp at hp; subst hp
      exact ⟨_, rfl, b, rfl⟩
    · rename_i hu
      cases h
      obtain ⟨s, rfl, _, hs⟩ := DataW.trod_string hu ht
      simp at hp; subst hp
      exact ⟨_, rfl, s, rfl, hs⟩
    · rename_i e hu
      cases h
      simp at hp; subst hp
      rcases Go.Deep.open_slice hu ht with ⟨rfl, _⟩ | ⟨a, len, cap, m, n, D, Pl, rfl, hb, hl, hm, hmm, _, hi⟩
      · exact ⟨_, rfl, .inl rfl⟩
      · refine ⟨_, rfl, .inr ⟨a, len, cap, rfl, hl, hm, hb, fun i hil => ?_⟩⟩
        obtain ⟨cs', h1, h2⟩ := hi i (by rw [hmm]; split <;> omega)
        exact ⟨cs', n, _, h1, h2⟩
    · rename_i fs hu
      obtain ⟨xs, n, _, _, _, _, hf⟩ := DataW.trod_struct hu ht
      cases hm : fs.toList.mapM fun f => (flat P d f.type).map fun l => l.map fun p => (f.offset + p.1, p.2) with
      | none => rw [hm] at h; cases h
      | some ls =>
        rw [hm] at h
        simp only [Option.map_some, Option.some.injEq] at h
        subst h
        obtain ⟨l1, hl1, hp1⟩ := List.mem_flatten.1 hp
        obtain ⟨i, f, hi, hfl⟩ := mapM_mem hm l1 hl1
        cases hfd : flat P d f.type with
        | none => rw [hfd] at hfl; cases hfl
        | some l2 =>
          rw [hfd] at hfl
          simp only [Option.map_some, Option.some.injEq] at hfl
          subst hfl
          obtain ⟨q, hq, rfl⟩ := List.mem_map.1 hp1
          have hi' : fs[i]? = some f := by simpa using hi
          have h1 := hf i f hi'
          cases hx : xs[i]? with
          | none => exfalso; have := (Array.getElem?_eq_some_iff.1 hi').1; have := List.getElem?_eq_none_iff.1 hx; omega
          | some y =>
            rw [hx] at h1
            obtain ⟨v, h3, h4⟩ := flat_ok d hfd h1 q hq
            exact ⟨v, sub_get h3, h4⟩
    · rename_i n e hu
      obtain ⟨xs, m, _, _, _, hlen, hf⟩ := DataW.trod_array hu ht
      cases hfd : flat P d e with
      | none => rw [hfd] at h; cases h
      | some l2 =>
        rw [hfd] at h
        simp only [Option.map_some, Option.some.injEq] at h
        subst h
        obtain ⟨i, hi, hp1⟩ := List.mem_flatMap.1 hp
        obtain ⟨q, hq, rfl⟩ := List.mem_map.1 hp1
        have hi' : i < n := by simpa using hi
        have h1 := hf i hi'
        cases hx : xs[i]? with
        | none => exfalso; have := List.getElem?_eq_none_iff.1 hx; omega
        | some y =>
          rw [hx] at h1
          obtain ⟨v, h3, h4⟩ := flat_ok d hfd h1 q hq
          exact ⟨v, sub_get h3, h4⟩
    · cases h

theorem okWide_array {r : Reach} {b0 : Nat} {t : TypeId} {n : Nat} {e : TypeId} {v : Value} (ht : P.underlying t = some (.array n e)) (h : Value.okWide P w r b0 t v) : ∃ cs, v = .agg cs ∧ cs.size = P.cellsOf t := by
  simp only [Value.okWide, ht] at h
  obtain ⟨cs, h1, h2, _⟩ := h
  exact ⟨cs, h1, h2⟩
theorem flat_agg {t : TypeId} {l : List (Nat × K)} {cs : Array Value} {d : DataW H} {p : List MemPlace} (n : Nat) (hf : flat P n t = some l) (h : DataW.Trod enc P w base spare held t (.agg cs) d p) :
    ∀ q ∈ l, ∃ v, cs[q.1]? = some v ∧ KOk enc P w base spare held q.2 v := by
  obtain ⟨fuel, h⟩ := h
  intro q hq
  obtain ⟨v, h1, h2⟩ := flat_ok n hf h q hq
  exact ⟨v, by simpa [Value.cells] using h1, h2⟩
theorem trodAll_stays (hl : laidOutB P = true) {W W' : World} (hb : Go.RowKit.Below W.heap.size W W') : ∀ {ts : List TypeId} {vs : List Value} {ds : List (DataW H)} {ps : List MemPlace} {sp : Nat → Bool},
    (ts.all fun t => P.readableRec t && Nat.blt t P.types.size) = true → DataW.TrodAll enc P W 0 (fun _ => true) true ts vs ds ps → (∀ x ∈ ps, x.block < W.heap.size) → (∀ x ∈ ps, sp x.block = true) → DataW.TrodAll enc P W' 0 sp true ts vs ds ps
  | [], [], [], _, _, _, h, _, _ => h
  | t :: ts, v :: vs, d :: ds, ps, sp, ht, h, hlt, hsp => by
    obtain ⟨p, q, h1, h2, rfl⟩ := h
    simp only [List.all_cons, Bool.and_eq_true, Nat.blt_eq] at ht
    refine ⟨p, q, ?_, trodAll_stays hl hb ht.2 h2 (fun x hx => hlt x (List.mem_append_right _ hx)) (fun x hx => hsp x (List.mem_append_right _ hx)), rfl⟩
    exact WideElems.Trod_stays hl ht.1.1 ht.1.2 h1 (fun x hx => hb.same (hlt x (List.mem_append_left _ hx))) (fun x hx => hsp x (List.mem_append_left _ hx))
  | [], _ :: _, _, _, _, _, h, _, _ => h.elim
  | [], [], _ :: _, _, _, _, h, _, _ => h.elim
  | _ :: _, [], _, _, _, _, h, _, _ => h.elim
  | _ :: _, _ :: _, [], _, _, _, h, _, _ => h.elim
/-- the end of a row where nothing that was there has changed (what is new may be marked) -/
theorem post_of_same2 {f : Func} {s : ChangeSpec} {apart fresh handsOn again : Bool} {W W' : World} {args : Array Value} {v : Value} {ds gs : List (DataW H)} {before pa pv : List MemPlace}
    (hW : DataW.Whole enc P f.params.toList s.vars apart W args.toList ds gs before)
    (hres : ∀ (b : Nat) (sp : Nat → Bool) (hd : Bool), DataW.TrodAll enc P W' b sp hd f.resultTypes.toList (v.resultList f.resultTypes.size) (s.fn H (ds ++ gs)).results [])
    (hargs : ∀ sp : Nat → Bool, (∀ p ∈ before, sp p.block = true) → DataW.TrodAll enc P W' 0 sp true f.params.toList args.toList (s.fn H (ds ++ gs)).args pa)
    (hvars : ∀ sp : Nat → Bool, (∀ p ∈ before, sp p.block = true) → DataW.TrodVars enc P W' sp s.vars (s.fn H (ds ++ gs)).vars pv)
    (hps : before = pa ++ pv) (hk : W.keptBut W' (· ∈ before)) (hfz : ∀ a, a.block < W.heap.size → W'.frozen? a = W.frozen? a)
    (hok : ∀ (j : Nat) (t : TypeId) (r : Value), f.resultTypes[j]? = some t → (v.resultList f.resultTypes.size)[j]? = some r → Value.okWide P W' .any 0 t r) :
    s.post enc P f apart fresh handsOn again W args v W' := by
  have hlt := fun x hx => hW.lt x hx
  have hold : ∀ p ∈ before, (fun b => decide (b < W.heap.size)) p.block = true := fun p hp => by simpa using hlt p hp
  refine ⟨ds, gs, before, [], pa, pv, hW, hres _ _ _, hargs _ hold, hvars _ hold, World.keptBut_mono (fun p hp => ⟨hp, ?_⟩) hk, fun _ => ?_⟩
  · rw [hps, List.mem_append] at hp
    exact Or.inr hp
  · obtain ⟨_, _, _, _, _, hz, hn⟩ := hW
    refine ⟨hok, _, _, ([] ++ pa) ++ pv, ⟨[] ++ pa, pv, trodAll_append (hargs _ (fun _ _ => rfl)) (hres _ _ _), hvars _ (fun _ _ => rfl), rfl, ?_, ?_⟩, ?_⟩
    · intro b off hp
      have hb : MemPlace.cell b off ∈ before := by rw [hps]; simpa using hp
      rw [hfz _ (hlt _ hb)]
      exact hz b off hb
    · intro ha
      have := hn ha
      rw [hps] at this
      simpa using this
    · intro p hp _
      rw [hps]
      simpa using hp
/-- What a law's row asks, where the walk kept all that was there and the law answers true. -/
theorem row_post {f : Func} {s : ChangeSpec} {apart fresh handsOn again : Bool} {W W' : World} {args : Array Value} {ds : List (DataW H)} {gs : List (DataW H)} {before : List MemPlace} {tb : TypeId}
    (hl : laidOutB P = true) (hts : (f.params.toList.all fun t => P.readableRec t && Nat.blt t P.types.size) = true) (hvars : s.vars = []) (hrt : f.resultTypes = #[tb]) (htb : P.underlying tb = some .bool)
    (hfn : s.fn H (ds ++ gs) = { results := [.lit (.bool true)], args := ds }) (hW : DataW.Whole enc P f.params.toList s.vars apart W args.toList ds gs before) (hk : Kept [] W W') :
    s.post enc P f apart fresh handsOn again W args (.bool true) W' := by
  have hlt := fun x hx => hW.lt x hx
  have hW' := hW
  obtain ⟨p, q, hA, hV, rfl, _, _⟩ := hW
  rw [hvars] at hV
  have hq : q = [] := (trodVars_none hV).2
  subst hq
  refine post_of_same2 (pa := p) (pv := []) hW' (fun _ _ _ => ?_) (fun sp hsp => ?_) (fun sp hsp => ?_) rfl (hk.keptBut _) hk.frz (ok_one hrt rfl (okWide_bool_mk htb _))
  · rw [hrt, hfn]; exact trodAll_cons_mk (shut_bool htb _) trodAll_mk0
  · rw [hfn]
    exact trodAll_stays hl hk.below hts hA (fun x hx => hlt x (List.mem_append_left _ hx)) (fun x hx => hsp x (List.mem_append_left _ hx))
  · rw [hfn, hvars]; exact rfl
end
end Go.X
