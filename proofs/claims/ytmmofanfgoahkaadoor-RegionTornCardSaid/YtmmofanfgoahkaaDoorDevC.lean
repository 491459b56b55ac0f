/- Contracts of package device: Flush, Crash, Fresh, Copy; devices that are none. -/
import Derived.Test.YtmmofanfgoahkaaDoorDevB
namespace Go.X
open Go Go.Proofs
theorem flushF_ok (i : Int) (w : World) : Fx Tryd.prog 75 [iv i] w (Pure w (iv 64)) := by
  refine Fx.of (L0 := []) Tryd.func75 rfl (by kernel_rfl) Tryd.ntmps75 rfl (Owns.nil w) ?_
  refine go (k := ?_)
  exact XE.ret1 () [] rfl rfl trivial rfl rfl rfl
theorem flush_nil (w : World) : Fx Tryd.prog 54 [.pointer none] w (Pure w (iv 0)) := by
  refine Fx.of (L0 := []) Tryd.func54 rfl (by kernel_rfl) Tryd.ntmps54 rfl (Owns.nil w) ?_
  refine go (k := ?_)
  refine XL.q (.call rfl rfl fun _ w' _ => settle_nil _ w') rfl ?_
  refine go (k := ?_)
  exact XE.ret1 () [] rfl rfl trivial rfl rfl rfl
abbrev F64 : Nat → Nat := fun _ => 64
theorem flush_ok (b : Nat) (lv : Value) (ds : List Slot) (w : World) (hk : Oks ds) (hn : ds.length ≤ 100000) (ho : Owns w (devG b lv ds)) :
    Fx Tryd.prog 54 [ptr b] w (Ret w (devG b lv ds) (fun _ : Unit => iv (nF ds ds.length)) (fun _ => devG b lv (settled F64 ds)) (fun _ => True)) := by
  refine Fx.of Tryd.func54 rfl (by kernel_rfl) Tryd.ntmps54 rfl ho ?_
  refine go (k := ?_)
  refine XL.call [0, 1] [] rfl rfl rfl rfl rfl (fun _ w _ ho => settle_ok b lv ds F64 75 [] [] w hk hn (fun i w' _ _ => flushF_ok i w') ho) fun _ _ => ?_
  refine go (k := ?_)
  exact XE.ret1 () [0, 1] rfl rfl trivial rfl rfl rfl
/-- the choice of the i-th fresh block -/
def Fc (l : List Int) (i : Nat) : Nat := if l.length = 0 then 0 else (if (l.getD (i % l.length) 0).tmod 66 < 0 then (l.getD (i % l.length) 0).tmod 66 + 66 else (l.getD (i % l.length) 0).tmod 66).toNat
theorem crashF_ok (bx : Nat) (v : Value) (l : List Int) (i : Nat) (t : TypeId) (fz : Nat × Nat) (w : World) (hb : w.heap[bx]? = some (.cells [v].toArray t fz)) (hv : RowAt w v 1 l.length (ivs l)) (hi : i ≤ 1000000) (hl : l.length ≤ 1000000) (hw : ∀ a ∈ l, -9223372036854775808 ≤ a ∧ a ≤ 9223372036854775807) :
    Fx Tryd.prog 73 [iv i, ptr bx] w (Pure w (iv (Fc l i))) := by
  have hr : ∀ L : Heap, Rd w (ids []) L v 1 l.length (ivs l) := fun L => .old hv (fun _ _ _ => by simp [X.ids])
  have hB : bx ∉ ids ([] : Heap) := by simp [X.ids]
  refine Fx.of (L0 := []) Tryd.func73 rfl (by kernel_rfl) Tryd.ntmps73 rfl (Owns.nil w) ?_
  refine XC.rdv (hr _) fun ao m hva _ _ haa => ?_
  subst hva
  have h0 : [Value.slice ao l.length m][0]? = some (Value.slice ao l.length m) := rfl
  by_cases hz : l.length = 0
  · have e : Fc l i = 0 := by unfold Fc; rw [if_pos hz]
    rw [e]
    refine go (k := ?_)
    exact XE.ret1 () [] rfl rfl trivial rfl rfl rfl
  · have hlt : i % l.length < l.length := Nat.mod_lt _ (by omega)
    obtain ⟨a, ha⟩ : ∃ a, l[i % l.length]? = some a := ⟨_, List.getElem?_eq_getElem hlt⟩
    have haw := hw a (List.mem_of_getElem? ha)
    have hd : l.getD (i % l.length) 0 = a := by rw [List.getD_eq_getElem?_getD, ha]; rfl
    obtain ⟨b1, o1, rfl⟩ : ∃ b off, ao = some ⟨b, off, none⟩ := haa.resolve_left (by omega)
    have hv1 : (ivs l)[(i % l.length) * 1]? = some (iv a) := by simp [ivs, ha]
    refine go (k := ?_)
    rw [show ((i : Int) % (l.length : Int)) = ((i % l.length : Nat) : Int) from by omega]
    refine go (k := ?_)
    refine XL.q (.ldRd rfl rfl rfl (hr _) (by omega) hv1) rfl ?_
    have t1 : a.tmod 66 < 66 := Int.tmod_lt_of_pos a (by decide)
    have t2 : -66 < a.tmod 66 := Int.lt_tmod_of_pos a (by decide)
    have e : (Fc l i : Int) = if a.tmod 66 < 0 then a.tmod 66 + 66 else a.tmod 66 := by unfold Fc; rw [if_neg hz, hd]; split <;> omega
    rw [e]
    by_cases hneg : a.tmod 66 < 0
    · rw [if_pos hneg]
      refine go (k := ?_)
      exact XE.ret1 () [] rfl rfl trivial rfl rfl rfl
    · rw [if_neg hneg]
      refine go (k := ?_)
      exact XE.ret1 () [] rfl rfl trivial rfl rfl rfl
theorem crash_nil (v : Value) (hv : v.cells.toList = [v]) (w : World) : Fx Tryd.prog 48 [.pointer none, v] w (Pure w (.tuple #[])) := by
  refine Fx.of (L0 := []) Tryd.func48 rfl (by kernel_rfl) Tryd.ntmps48 rfl (Owns.nil w) ?_
  refine go (k := ?_)
  refine XL.box rfl hv rfl fun bx => ?_
  refine go (k := ?_)
  refine XL.q (.call rfl rfl fun _ w' _ => settle_nil _ w') rfl ?_
  refine go (k := ?_)
  exact XE.end0 () [] rfl trivial rfl rfl rfl
theorem crash_ok (b : Nat) (lv : Value) (ds : List Slot) (v : Value) (l : List Int) (w : World) (hk : Oks ds) (hn : ds.length ≤ 100000) (hv : ∀ w', Kept (ids (devG b lv ds)) w w' → RowAt w' v 1 l.length (ivs l)) (hl : l.length ≤ 1000000) (hw : ∀ a ∈ l, -9223372036854775808 ≤ a ∧ a ≤ 9223372036854775807)
    (ho : Owns w (devG b lv ds)) :
    Fx Tryd.prog 48 [ptr b, v] w (Ret w (devG b lv ds) (fun _ : Unit => .tuple #[]) (fun _ => devG b lv (settled (Fc l) ds)) (fun _ => True)) := by
  obtain ⟨ao, c, hvv, _, _⟩ := hv w (.refl _ _)
  refine Fx.of Tryd.func48 rfl (by kernel_rfl) Tryd.ntmps48 rfl ho ?_
  refine go (k := ?_)
  refine XL.box (zs := [v]) rfl (by rw [hvv]; rfl) rfl fun bx => ?_
  refine go (k := ?_)
  refine XL.call [1, 2] [] rfl rfl rfl rfl rfl (fun _ w1 hs ho => settle_ok b lv ds (Fc l) 73 [] [ptr bx] w1 hk hn (fun i w' hi hk' => by
    have hb : w1.heap[bx]? = some (.cells [v].toArray _ (0, 0)) := hs.own.ok _ (.head _)
    have hb' : w'.heap[bx]? = some (.cells [v].toArray _ (0, 0)) := (hk'.same bx (Array.getElem?_eq_some_iff.1 hb).1 (fun h => (Owns.apart (L := [.blk bx [v] _]) hs.own) bx (by simp [X.ids, Ent.ids]) h)).trans hb
    exact crashF_ok bx v l i _ _ w' hb' (hv w' (hs.kept.trans hk' fun b hb => .inl hb)) (by omega) hl hw) ho) fun _ _ => ?_
  refine go (k := ?_)
  exact XE.end0 () [0, 1] rfl trivial rfl rfl rfl
/-! ### Fresh -/
def freshL (ds : List Slot) (k : Nat) : List Int := ((List.range k).filter fun i => (ds[i]?.map (·.fresh)).getD false).map Int.ofNat
theorem freshL_snoc {ds : List Slot} {k : Nat} {s : Slot} (h : ds[k]? = some s) : freshL ds (k + 1) = freshL ds k ++ if s.fresh = true then [(k : Int)] else [] := by
  unfold freshL
  rw [List.range_succ, List.filter_append, List.map_append]
  congr 1
  cases hf : s.fresh <;> simp [h, hf]
theorem freshL_len (ds : List Slot) (k : Nat) : (freshL ds k).length ≤ k := by
  unfold freshL
  rw [List.length_map]
  exact Nat.le_trans (List.length_filter_le _ _) (by simp)
/-! ### Copy -/
theorem dclone_ok (v : Value) (xs : List Value) (m : Nat) (w : World) (hv : RowAt w v 129 m xs) (h1 : xs.all Value.oneCell' = true) (hm0 : 0 < m) (hm : m ≤ 100000) :
    Fx Tryd.prog 51 [v] w (Ret w [] (fun v : Value => v) (fun v => [.sl v 89 129 xs]) (fun _ => True)) := by
  have hv' := hv
  obtain ⟨ao, c, rfl, e1, e2, h3⟩ := hv'
  refine Fx.of (L0 := []) Tryd.func51 rfl (by kernel_rfl) Tryd.ntmps51 rfl (Owns.nil w) ?_
  refine go (k := ?_)
  refine XL.q (.eqNilSl rfl rfl rfl) rfl ?_
  cases ao with
  | none =>
    rcases h3 with h3 | ⟨_, _, _, _, _, h4, _⟩
    · omega
    · cases h4
  | some a =>
    refine go (k := ?_)
    refine XL.make (.bslice rfl rfl rfl rfl rfl rfl) rfl fun v H hb => ?_
    obtain ⟨b, rfl, rfl⟩ := hb
    refine go (k := ?_)
    have hrd : ∀ (L : Heap), Rd w (ids []) L (.slice (some a) m c) 129 m xs := fun L => .old hv (fun _ _ _ => by simp [X.ids])
    refine XL.make (.grow (xs := []) rfl rfl rfl rfl rfl rfl (by decide) .empty (hrd _) h1 (by omega) (by simp; omega) (by simp; omega)) rfl fun v H hb => ?_
    subst hb
    refine go (k := ?_)
    exact XE.ret1 v [0] rfl rfl trivial rfl rfl rfl
theorem dcopy_none (x : Value) (w : World) (h : ∀ w', Kept [] w w' → Fx Tryd.prog 26 [x] w' (Pure w' (iv 0))) : Fx Tryd.prog 25 [x] w (Pure w (.pointer none)) := by
  refine Fx.of (L0 := []) Tryd.func25 rfl (by kernel_rfl) Tryd.ntmps25 rfl (Owns.nil w) ?_
  refine go (k := ?_)
  refine XL.q (.call rfl rfl fun _ w' hs => h w' hs.kept) rfl ?_
  refine go (k := ?_)
  exact XE.ret1 () [] rfl rfl trivial rfl rfl rfl
theorem dcopy_ok (b : Nat) (lv : Value) (ds : List Slot) (w : World) (hk : Oks ds) (hn0 : 0 < ds.length) (hn : ds.length ≤ 100000) (ho : Owns w (devG b lv ds)) :
    Fx Tryd.prog 25 [ptr b] w (Ret w [] (fun x : Nat × Value => ptr x.1) (fun x => [devE x.1 x.2 ds]) (fun _ => True)) := by
  have hown : ∀ w', Kept [] w w' → Owns w' (devG b lv ds) := fun w' k => ho.of_kept k (fun _ _ h => by cases h)
  have hb : w.heap[b]? = some (.cells [lv].toArray _ (0, 0)) := ho.ok _ (.head _)
  have hB : b ∉ ids ([] : Heap) := by simp [X.ids]
  have c0 : [lv][0 + 0]? = some lv := rfl
  have hz : ¬ (ds.length : Int) = 0 := by omega
  refine Fx.of (L0 := []) Tryd.func25 rfl (by kernel_rfl) Tryd.ntmps25 rfl (Owns.nil w) ?_
  refine go (k := ?_)
  refine XL.q (.call rfl rfl fun _ w' hs => blocks_ok b lv ds w' hk (hown w' hs.kept)) rfl ?_
  refine go (k := ?_)
  refine XL.make (.call rfl rfl fun _ w' hs => dclone_ok lv (dcs ds) ds.length w' (((hown w' hs.kept).ok _ (.tail _ (.head _)) : SlOk w' lv _ 129 _).rowAt (by decide) (dcs_len hk).symm) (dcs_one ds) hn0 hn) rfl fun v H hv => ?_
  obtain ⟨v', _, rfl, rfl⟩ := hv
  refine XL.slv (.head _) fun ao q m hv _ _ => ?_
  subst hv
  refine go (k := ?_)
  refine XL.box rfl rfl rfl fun b' => ?_
  refine go (k := ?_)
  refine XE.all ?_
  exact XE.ret1 (b', .slice ao q m) [0] rfl rfl trivial rfl rfl rfl
end Go.X
