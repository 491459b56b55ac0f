/- Iteration over an index. -/
import Derived.Test.YtifoppgacekknaaHashB
namespace Go.X
open Go Go.Proofs
def itemsFrom : Ixs → Nat → List (List Value)
  | [], _ => []
  | p :: ps, j => p.2.map (fun id => [Value.int .u8 (j : Int), uv id]) ++ itemsFrom ps (j + 1)
theorem items_take : ∀ (ps : Ixs) (j i : Nat) (p : Value × List Int), ps[j]? = some p → itemsFrom ps i = itemsFrom (ps.take j) i ++ (p.2.map (fun id => [Value.int .u8 ((i + j : Nat) : Int), uv id]) ++ itemsFrom (ps.drop (j + 1)) (i + j + 1))
  | [], j, i, p, h => by simp at h
  | q :: ps, 0, i, p, h => by simp at h; subst h; simp [itemsFrom]
  | q :: ps, j + 1, i, p, h => by
    have := items_take ps j (i + 1) p (by simpa using h)
    simp only [itemsFrom, List.take_succ_cons, List.drop_succ_cons, List.append_assoc]
    rw [this]
    rw [show i + 1 + j = i + (j + 1) by omega]
theorem items_snoc : ∀ (ps : Ixs) (j i : Nat) (p : Value × List Int), ps[j]? = some p → (itemsFrom (ps.take (j + 1)) i).length = (itemsFrom (ps.take j) i).length + p.2.length
  | [], j, i, p, h => by simp at h
  | q :: ps, 0, i, p, h => by simp at h; subst h; simp [itemsFrom]
  | q :: ps, j + 1, i, p, h => by
    have := items_snoc ps j (i + 1) p (by simpa using h)
    simp only [itemsFrom, List.take_succ_cons, List.length_append, List.length_map] at this ⊢
    omega
theorem items_get (ps : Ixs) (j k : Nat) (p : Value × List Int) (id : Int) (hp : ps[j]? = some p) (hk : p.2[k]? = some id) : (itemsFrom ps 0)[(itemsFrom (ps.take j) 0).length + k]? = some [.int .u8 (j : Int), uv id] := by
  have hlt := (List.getElem?_eq_some_iff.1 hk).1
  rw [items_take ps j 0 p hp, List.getElem?_append_right (by omega), Nat.add_sub_cancel_left, List.getElem?_append_left (by simpa using hlt), List.getElem?_map, hk]
  simp
theorem all_seq (bx b : Nat) (ps : Ixs) (hn : ps.length = 16) (hl : ∀ p ∈ ps, p.2.length ≤ 1000000) : Seq Try.prog 25 [] [ptr bx] [.blk bx [ptr b] 28, ixE b ps] (itemsFrom ps 0) := by
  intro α β l M φ Z ψ w x0 hx0 ho hy
  refine Fx.of Try.func25 rfl (by kernel_rfl) Try.ntmps25 rfl ho ?_
  refine go (k := ?_)
  refine XL.q (.call rfl rfl fun _ w hs => is_ok b true _ _ _ w ((hs.own.grp (.tail _ (.head _))).ok _ (.head _))) rfl ?_
  refine go (k := ?_)
  have hcut : cut (Value.bool true :: ps.map (·.1)) (0 + 1) 16 = some (ps.map (·.1)) := by
    rw [cut_some (by simp; omega)]
    simp [List.take_of_length_le, hn]
  refine XL.q (.inG (.tail _ (.head _)) (.ldN rfl rfl rfl rfl (.head _) hcut)) rfl ?_
  refine go (k := ?_)
  refine XC.loop (α := Nat × α) (fun x => [(0, yv l), (1, ptr bx), (13, .agg (ps.map (·.1)).toArray), (14, .int .i64 x.1)]) (fun x => [.blk bx [ptr b] 28, ixE b ps, M x.2])
    (fun x => x.1 ≤ 16 ∧ φ (itemsFrom (ps.take x.1) 0).length x.2) (fun x => 16 - x.1) (0, x0) [0, 1, 2] ⟨Nat.zero_le _, by simpa [itemsFrom] using hx0⟩ ⟨rfl, rfl, rfl, rfl, trivial⟩ rfl rfl ?_
  rintro ⟨j, x⟩ ⟨hj, hx⟩
  simp only at hj hx ⊢
  by_cases hlt : j < 16
  · obtain ⟨⟨v, ids⟩, hp⟩ : ∃ p, ps[j]? = some p := ⟨_, List.getElem?_eq_getElem (by omega)⟩
    have hidx : (ps.map (·.1))[j]? = some v := by rw [List.getElem?_map, hp]; rfl
    have hil : ids.length ≤ 1000000 := hl _ (List.mem_of_getElem? hp)
    refine go (k := ?_)
    refine XL.make (.call rfl rfl fun _ w hs => clone_ok v ids w (((hs.own.grp (.tail _ (.head _))).ok _ (ix_mem hp b true)).rowAt (by decide) (by simp)) (by omega)) rfl fun v' H hb => ?_
    obtain ⟨_, _, rfl, rfl⟩ := hb
    refine XL.slv (.head _) fun ao q m hv hq hqm => ?_
    subst hv
    obtain rfl : q = ids.length := by simpa using hq
    refine go (k := ?_)
    obtain ⟨off, hoff⟩ : ∃ off, (itemsFrom (ps.take j) 0).length = off := ⟨_, rfl⟩
    rw [hoff] at hx
    refine XC.loop (α := Nat × α) (fun y => [(0, yv l), (1, ptr bx), (3, .int .i64 j), (13, .agg (ps.map (·.1)).toArray), (14, .int .i64 j), (19, .slice ao ids.length m), (20, .int .i64 ids.length), (21, .int .i64 y.1)])
      (fun y => [.sl (.slice ao ids.length m) 35 1 (uvs ids), .blk bx [ptr b] 28, ixE b ps, M y.2])
      (fun y => y.1 ≤ ids.length ∧ φ (off + y.1) y.2) (fun y => ids.length - y.1) (0, x) [0, 1, 2, 3] ⟨Nat.zero_le _, hx⟩ ⟨rfl, rfl, rfl, rfl, rfl, rfl, rfl, rfl, trivial⟩ rfl rfl ?_
    rintro ⟨k, x'⟩ ⟨hk, hx'⟩
    simp only at hk hx' ⊢
    by_cases hkl : k < ids.length
    · obtain ⟨id, hid⟩ : ∃ id, ids[k]? = some id := ⟨_, List.getElem?_eq_getElem hkl⟩
      refine XC.openSl (m := ids.length) (.head _) (by decide) (by simp) (by omega) (fun _ _ => .here) fun b' cs cap hv' hc hcl hct => ?_
      cases hv'
      have hat : cs[k * 1]? = some (uv id) := by
        have h1 : (uvs ids)[k]? = some (uv id) := by simp [uvs, hid]
        rw [← hct, List.getElem?_take] at h1
        rw [Nat.mul_one]
        split at h1
        · exact h1
        · cases h1
      have hit := items_get ps j k (v, ids) id hp hid
      rw [hoff] at hit
      refine go (k := ?_)
      refine XL.yield [1, 2, 3] [0] rfl rfl rfl rfl rfl (fun a w' hs ho' => hy (off + k) _ x' w' hit hx' ho' hs.kept fun b hb => hs.wr b ?_) fun z hz => ?_
      · simp only [X.ids, List.mem_append, List.cons_append, List.nil_append] at hb ⊢
        exact .inr hb
      rcases z with x'' | y
      · refine go (k := ?_)
        refine XE.shutSl (m := ids.length) (cap := m) (k := 1) (xs := uvs ids) (.tail _ (.tail _ (.tail _ (.head _)))) (by simp) hc (by simpa using hcl) hct (.there (.there (.there .here))) ?_
        exact XE.mid (k + 1, x'') [3, 0, 1, 2] ⟨⟨by simp only; omega, hz⟩, by simp only; omega⟩ ⟨rfl, rfl, rfl, rfl, rfl, rfl, rfl, rfl, trivial⟩ rfl rfl
      · refine go (k := ?_)
        exact XE.ret0 (Sum.inr y) [0] rfl hz rfl rfl rfl
    · obtain rfl : k = ids.length := by omega
      refine go (k := ?_)
      refine XE.mid (j + 1, x') [1, 2, 3] ⟨⟨by simp only; omega, ?_⟩, by simp only; omega⟩ ⟨rfl, rfl, rfl, rfl, trivial⟩ rfl rfl
      have := items_snoc ps j 0 _ hp
      simp only at this ⊢
      rw [this, hoff]; exact hx'
  · obtain rfl : j = 16 := by omega
    rw [List.take_of_length_le (by omega)] at hx
    refine go (k := ?_)
    exact XE.end0 (Sum.inl x) [0, 1, 2] rfl hx rfl rfl rfl

theorem items_form : ∀ (ps : Ixs) (i k : Nat) (vs : List Value), (itemsFrom ps i)[k]? = some vs → ∃ (j : Nat) (id : Int), vs = [.int .u8 (j : Int), uv id] ∧ j < i + ps.length
  | [], i, k, vs, h => by simp [itemsFrom] at h
  | p :: ps, i, k, vs, h => by
    simp only [itemsFrom] at h
    rw [List.getElem?_append] at h
    split at h
    · rw [List.getElem?_map] at h
      cases hid : p.2[k]? with
      | none => rw [hid] at h; cases h
      | some id => rw [hid] at h; cases h; exact ⟨i, id, rfl, by simp⟩
    · obtain ⟨j, id, h1, h2⟩ := items_form ps (i + 1) _ vs h
      exact ⟨j, id, h1, by simp; omega⟩
theorem all_ok (x : Value) (hx : x.cells.toList = [x]) (w : World) : Fx Try.prog 15 [x] w (Ret w [] (fun bx : Nat => .func (.func 25) #[] #[ptr bx]) (fun bx => [.blk bx [x] 28]) (fun _ => True)) := by
  refine Fx.of (L0 := []) Try.func15 rfl (by kernel_rfl) Try.ntmps15 rfl (Owns.nil w) ?_
  refine go (k := ?_)
  refine XL.box rfl hx rfl fun bx => ?_
  refine go (k := ?_)
  exact XE.ret1 bx [0] rfl rfl trivial rfl rfl rfl
theorem len_ok (b : Nat) (ps : Ixs) (w : World) (hn : ps.length = 16) (hl : ∀ p ∈ ps, p.2.length ≤ 1000000) (hs : (itemsFrom ps 0).length ≤ 100000000) (ho : Owns w [ixE b ps]) :
    Fx Try.prog 13 [ptr b] w (Ret w [ixE b ps] (fun _ : Unit => .int .i64 (itemsFrom ps 0).length) (fun _ => [ixE b ps]) (fun _ => True)) := by
  refine Fx.of Try.func13 rfl (by kernel_rfl) Try.ntmps13 rfl ho ?_
  refine go (k := ?_)
  refine XL.alloc rfl rfl rfl fun bn => ?_
  refine go (k := ?_)
  refine XL.call [] [0, 1] rfl rfl rfl rfl rfl (fun _ w _ _ => all_ok (ptr b) rfl w) fun bx _ => ?_
  refine go (k := ?_)
  refine XC.rangeFunc (α := Nat) (β := Empty) (H := fun c => [.blk bn [.int .i64 c] 3]) (φ := fun k c => c = k) (Z := fun _ => []) (ψ := fun _ => False) (jmp := fun _ => .ret) 0 [0, 2, 1]
    (fun vs => zipE [6, 7] vs [(3, ptr bn)]) rfl (all_seq bx b ps hn hl) rfl rfl rfl ?_ rfl ?_ ?_ ?_ (fun _ y => y.elim)
  · intro k vs hvs
    obtain ⟨j, id, rfl, _⟩ := items_form ps 0 k vs hvs
    rfl
  · intro l k vs w L' hvs
    obtain ⟨j, id, rfl, _⟩ := items_form ps 0 k vs hvs
    refine go (k := ?_)
    exact XE.midI () trivial ⟨rfl, rfl, rfl, trivial⟩ rfl
  · intro l k vs x w hvs hx _
    obtain ⟨j, id, rfl, _⟩ := items_form ps 0 k vs hvs
    have hk := (List.getElem?_eq_some_iff.1 hvs).1
    subst hx
    refine go (k := ?_)
    exact XE.round (x + 1) [0, 1, 2] rfl rfl rfl
  · intro D x hx
    subst hx
    refine go (k := ?_)
    refine XE.mark (.inl rfl) .here ?_
    exact XE.ret1 () [2] rfl rfl trivial rfl rfl rfl
end Go.X
