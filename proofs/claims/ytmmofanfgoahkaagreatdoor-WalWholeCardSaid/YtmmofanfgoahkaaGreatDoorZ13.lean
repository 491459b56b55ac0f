/- Contracts of package device: Flush, Crash, Fresh, Copy; devices that are none. -/
import Derived.Test.YtmmofanfgoahkaaGreatDoorZ12
import Derived.Test.YtmmofanfgoahkaaGreatDoorZ9
import Derived.Lib.ConvBytes
namespace Go.X
open Go Go.Proofs
theorem flushF_ok (i : Int) (w : World) : Fx Tryz.prog 111 [iv i] w (Pure w (iv 64)) := by
  refine Fx.of (L0 := []) Tryz.func111 rfl (by kernel_rfl) Tryz.ntmps111 rfl (Owns.nil w) ?_
  refine go (k := ?_)
  exact XE.ret1 () [] rfl rfl trivial rfl rfl rfl
theorem flush_nil (w : World) : Fx Tryz.prog 81 [.pointer none] w (Pure w (iv 0)) := by
  refine Fx.of (L0 := []) Tryz.func81 rfl (by kernel_rfl) Tryz.ntmps81 rfl (Owns.nil w) ?_
  refine go (k := ?_)
  refine XL.q (.call rfl rfl fun _ w' _ => settle_nil _ w') rfl ?_
  refine go (k := ?_)
  exact XE.ret1 () [] rfl rfl trivial rfl rfl rfl
abbrev F64 : Nat → Nat := fun _ => 64
theorem flush_ok (b : Nat) (lv : Value) (ds : List Slot) (w : World) (hk : Oks ds) (hn : ds.length ≤ 100000) (ho : Owns w (devG b lv ds)) :
    Fx Tryz.prog 81 [ptr b] w (Ret w (devG b lv ds) (fun _ : Unit => iv (nF ds ds.length)) (fun _ => devG b lv (settled F64 ds)) (fun _ => True)) := by
  refine Fx.of Tryz.func81 rfl (by kernel_rfl) Tryz.ntmps81 rfl ho ?_
  refine go (k := ?_)
  refine XL.call [0, 1] [] rfl rfl rfl rfl rfl (fun _ w _ ho => settle_ok b lv ds F64 111 [] [] w hk hn (fun i w' _ _ => flushF_ok i w') ho) fun _ _ => ?_
  refine go (k := ?_)
  exact XE.ret1 () [0, 1] rfl rfl trivial rfl rfl rfl
/-- the choice of the i-th fresh block -/
def Fc (l : List Int) (i : Nat) : Nat := if l.length = 0 then 0 else (if (l.getD (i % l.length) 0).tmod 66 < 0 then (l.getD (i % l.length) 0).tmod 66 + 66 else (l.getD (i % l.length) 0).tmod 66).toNat
theorem crashF_ok (bx : Nat) (v : Value) (l : List Int) (i : Nat) (t : TypeId) (fz : Nat × Nat) (w : World) (hb : w.heap[bx]? = some (.cells [v].toArray t fz)) (hv : RowAt w v 1 l.length (ivs l)) (hi : i ≤ 1000000) (hl : l.length ≤ 1000000) (hw : ∀ a ∈ l, -9223372036854775808 ≤ a ∧ a ≤ 9223372036854775807) :
    Fx Tryz.prog 99 [iv i, ptr bx] w (Pure w (iv (Fc l i))) := by
  have hr : ∀ L : Heap, Rd w (ids []) L v 1 l.length (ivs l) := fun L => .old hv (fun _ _ _ => by simp [X.ids])
  have hB : bx ∉ ids ([] : Heap) := by simp [X.ids]
  refine Fx.of (L0 := []) Tryz.func99 rfl (by kernel_rfl) Tryz.ntmps99 rfl (Owns.nil w) ?_
  refine XC.rdv (hr _) fun ao m hva _ _ haa => ?_
  subst hva
  have h0 : [Value.slice ao l.length m][0]? = some (Value.slice ao l.length m) := rfl
  by_cases hz : l.length = 0
  · have e : Fc l i = 0 := by unfold Fc; rw [if_pos hz]
    rw [e]
    refine go (k := ?_)
    exact XE.ret1 () [] rfl rfl trivial rfl rfl rfl
  · have hlt : i % l.length < l.length := Nat.mod_lt _ (by omega)
    obtain ⟨a, ha⟩ : ∃ a, l[i % l.length]? = some a := ⟨_, List.getElem?_eq_getElem hlt⟩
    have haw := hw a (List.mem_of_getElem? ha)
    have hd : l.getD (i % l.length) 0 = a := by rw [List.getD_eq_getElem?_getD, ha]; rfl
    obtain ⟨b1, o1, rfl⟩ : ∃ b off, ao = some ⟨b, off, none⟩ := haa.resolve_left (by omega)
    have hv1 : (ivs l)[(i % l.length) * 1]? = some (iv a) := by simp [ivs, ha]
    refine go (k := ?_)
    rw [show ((i : Int) % (l.length : Int)) = ((i % l.length : Nat) : Int) from by omega]
    refine go (k := ?_)
    refine XL.q (.ldRd rfl rfl rfl (hr _) (by omega) hv1) rfl ?_
    have t1 : a.tmod 66 < 66 := Int.tmod_lt_of_pos a (by decide)
    have t2 : -66 < a.tmod 66 := Int.lt_tmod_of_pos a (by decide)
    have e : (Fc l i : Int) = if a.tmod 66 < 0 then a.tmod 66 + 66 else a.tmod 66 := by unfold Fc; rw [if_neg hz, hd]; split <;> omega
    rw [e]
    by_cases hneg : a.tmod 66 < 0
    · rw [if_pos hneg]
      refine go (k := ?_)
      exact XE.ret1 () [] rfl rfl trivial rfl rfl rfl
    · rw [if_neg hneg]
      refine go (k := ?_)
      exact XE.ret1 () [] rfl rfl trivial rfl rfl rfl
theorem crash_nil (v : Value) (hv : v.cells.toList = [v]) (w : World) : Fx Tryz.prog 61 [.pointer none, v] w (Pure w (.tuple #[])) := by
  refine Fx.of (L0 := []) Tryz.func61 rfl (by kernel_rfl) Tryz.ntmps61 rfl (Owns.nil w) ?_
  refine go (k := ?_)
  refine XL.box rfl hv rfl fun bx => ?_
  refine go (k := ?_)
  refine XL.q (.call rfl rfl fun _ w' _ => settle_nil _ w') rfl ?_
  refine go (k := ?_)
  exact XE.end0 () [] rfl trivial rfl rfl rfl
theorem crash_ok (b : Nat) (lv : Value) (ds : List Slot) (v : Value) (l : List Int) (w : World) (hk : Oks ds) (hn : ds.length ≤ 100000) (hv : ∀ w', Kept (ids (devG b lv ds)) w w' → RowAt w' v 1 l.length (ivs l)) (hl : l.length ≤ 1000000) (hw : ∀ a ∈ l, -9223372036854775808 ≤ a ∧ a ≤ 9223372036854775807)
    (ho : Owns w (devG b lv ds)) :
    Fx Tryz.prog 61 [ptr b, v] w (Ret w (devG b lv ds) (fun _ : Unit => .tuple #[]) (fun _ => devG b lv (settled (Fc l) ds)) (fun _ => True)) := by
  obtain ⟨ao, c, hvv, _, _⟩ := hv w (.refl _ _)
  refine Fx.of Tryz.func61 rfl (by kernel_rfl) Tryz.ntmps61 rfl ho ?_
  refine go (k := ?_)
  refine XL.box (zs := [v]) rfl (by rw [hvv]; rfl) rfl fun bx => ?_
  refine go (k := ?_)
  refine XL.call [1, 2] [] rfl rfl rfl rfl rfl (fun _ w1 hs ho => settle_ok b lv ds (Fc l) 99 [] [ptr bx] w1 hk hn (fun i w' hi hk' => by
    have hb : w1.heap[bx]? = some (.cells [v].toArray _ (0, 0)) := hs.own.ok _ (.head _)
    have hb' : w'.heap[bx]? = some (.cells [v].toArray _ (0, 0)) := (hk'.same bx (Array.getElem?_eq_some_iff.1 hb).1 (fun h => (Owns.apart (L := [.blk bx [v] _]) hs.own) bx (by simp [X.ids, Ent.ids]) h)).trans hb
    exact crashF_ok bx v l i _ _ w' hb' (hv w' (hs.kept.trans hk' fun b hb => .inl hb)) (by omega) hl hw) ho) fun _ _ => ?_
  refine go (k := ?_)
  exact XE.end0 () [0, 1] rfl trivial rfl rfl rfl
/-! ### Fresh -/
def freshL (ds : List Slot) (k : Nat) : List Int := ((List.range k).filter fun i => (ds[i]?.map (·.fresh)).getD false).map Int.ofNat
theorem freshL_snoc {ds : List Slot} {k : Nat} {s : Slot} (h : ds[k]? = some s) : freshL ds (k + 1) = freshL ds k ++ if s.fresh = true then [(k : Int)] else [] := by
  unfold freshL
  rw [List.range_succ, List.filter_append, List.map_append]
  congr 1
  cases hf : s.fresh <;> simp [h, hf]
theorem freshL_len (ds : List Slot) (k : Nat) : (freshL ds k).length ≤ k := by
  unfold freshL
  rw [List.length_map]
  exact Nat.le_trans (List.length_filter_le _ _) (by simp)
/-! ### Copy -/
end Go.X
/- Package device: plain facts that more than one law needs; Write of any block. -/
namespace Go.X
open Go Go.Proofs
theorem rep_ok (n : Nat) : Oks (List.replicate n slot0) := fun s hs => by rw [(List.mem_replicate.1 hs).2]; exact slot0_ok
theorem zbytes_len (n : Nat) : (zbytes n).length = n := List.length_replicate
theorem rep_at {n k : Nat} (h : k < n) : (List.replicate n slot0)[k]? = some slot0 := by rw [List.getElem?_replicate, if_pos h]
theorem settled_fresh (F : Nat → Nat) (ds : List Slot) (k : Nat) : freshL (settled F ds) k = [] := by
  unfold freshL
  have : (List.range k).filter (fun i => ((settled F ds)[i]?.map (·.fresh)).getD false) = [] := by
    rw [List.filter_eq_nil_iff]
    intro i _
    rw [settled_at]
    cases h : ds[i]? with
    | none => simp
    | some s =>
      simp only [Option.map_some, Option.getD_some]
      cases hf : s.fresh <;> simp [hf]
  rw [this]; rfl
/-- Write, of any block and any bytes -/
def dwr (ds : List Slot) (k : Int) (s : List UInt8) : Int × List Slot := if ds.length = 0 then (1, ds) else if k < 0 ∨ ds.length ≤ k then (2, ds) else if 64 < s.length then (3, ds) else (0, ds.set k.toNat ⟨(ds.getD k.toNat slot0).firm, padTo s, true⟩)
theorem dwr_len (ds : List Slot) (k : Int) (s : List UInt8) : (dwr ds k s).2.length = ds.length := by
  unfold dwr
  split
  · rfl
  · split
    · rfl
    · split
      · rfl
      · simp
theorem dwr_ok {ds : List Slot} (h : Oks ds) (k : Int) (s : List UInt8) : Oks (dwr ds k s).2 := by
  unfold dwr
  split
  · exact h
  · split
    · exact h
    · split
      · exact h
      · rename_i h0 h1 h2
        refine h.set ⟨?_, padTo_len (by omega)⟩
        rw [List.getD_eq_getElem?_getD]
        cases hd : ds[k.toNat]? with
        | none => exact slot0_ok.1
        | some x => exact (h x (List.mem_of_getElem? hd)).1
theorem write_any (b : Nat) (lv : Value) (ds : List Slot) (k : Int) (s : List UInt8) (w : World) (hk : Oks ds) (hn : 0 < ds.length) (ho : Owns w [devE b lv ds]) :
    Fx Tryz.prog 51 [ptr b, iv k, str s] w (Ret w [devE b lv ds] (fun _ : Unit => iv (dwr ds k s).1) (fun _ => [devE b lv (dwr ds k s).2]) (fun _ => True)) := by
  have hG := ho.grp (.head _)
  by_cases h1 : k < 0 ∨ ds.length ≤ k
  · have e : dwr ds k s = (2, ds) := by unfold dwr; rw [if_neg (by omega), if_pos h1]
    rw [e]
    refine Fx.keep ho (write_err (ptr b) k 2 s w (by decide) fun w' hk' => dat_err b lv ds k 2 w' hk ?_ (hG.of_kept hk' fun _ _ h => by cases h))
    unfold errAt; rw [if_neg (by omega), if_pos h1]
  · obtain ⟨j, rfl⟩ : ∃ j : Nat, k = j := ⟨k.toNat, by omega⟩
    by_cases h2 : 64 < s.length
    · have e : dwr ds j s = (3, ds) := by unfold dwr; rw [if_neg (by omega), if_neg h1, if_pos h2]
      rw [e]
      exact Fx.keep ho (write_long b lv ds j s w hk (by omega) h2 hG)
    · obtain ⟨x, hx⟩ : ∃ x, ds[j]? = some x := ⟨_, List.getElem?_eq_getElem (by omega)⟩
      have e : dwr ds j s = (0, ds.set j ⟨x.firm, padTo s, true⟩) := by
        unfold dwr; rw [if_neg (by omega), if_neg h1, if_neg h2, Int.toNat_natCast, List.getD_eq_getElem?_getD, hx]; rfl
      rw [e]
      exact Fx.grp (fun ho => write_ok b lv ds j x s w hk hx (by omega) ho) ho
def DInv (ds : List Slot) : Prop := ∀ s ∈ ds, s.fresh = false → s.read = s.firm
theorem rep_inv (n : Nat) : DInv (List.replicate n slot0) := fun s hs _ => by rw [(List.mem_replicate.1 hs).2]; rfl
theorem settled_mem {F : Nat → Nat} {ds : List Slot} {s : Slot} (hs : s ∈ settled F ds) : ∃ i x, ds[i]? = some x ∧ s = if x.fresh = true then ⟨torn F (nF ds i) x, torn F (nF ds i) x, false⟩ else x := by
  obtain ⟨i, hi⟩ := List.getElem?_of_mem hs
  rw [settled_at] at hi
  cases hd : ds[i]? with
  | none => rw [hd] at hi; cases hi
  | some x => rw [hd] at hi; exact ⟨i, x, hd, (Option.some.inj hi).symm⟩
theorem settled_inv (F : Nat → Nat) {ds : List Slot} (h : DInv ds) : DInv (settled F ds) := by
  intro s hs hf
  obtain ⟨i, x, hx, rfl⟩ := settled_mem hs
  by_cases e : x.fresh = true
  · rw [if_pos e]
  · rw [if_neg e] at hf ⊢; exact h x (List.mem_of_getElem? hx) hf
theorem settled_nf {F : Nat → Nat} {ds : List Slot} : ∀ s ∈ settled F ds, s.fresh = false := by
  intro s hs
  obtain ⟨i, x, _, rfl⟩ := settled_mem hs
  by_cases e : x.fresh = true
  · rw [if_pos e]
  · rw [if_neg e]; simpa using e
theorem settled_none {F : Nat → Nat} {ds : List Slot} (h : ∀ s ∈ ds, s.fresh = false) : settled F ds = ds := by
  apply List.ext_getElem?
  intro i
  rw [settled_at]
  cases hd : ds[i]? with
  | none => rfl
  | some x => simp [h x (List.mem_of_getElem? hd)]
theorem dwr_inv {ds : List Slot} (h : DInv ds) (k : Int) (s : List UInt8) : DInv (dwr ds k s).2 := by
  unfold dwr
  split
  · exact h
  · split
    · exact h
    · split
      · exact h
      · intro x hx hf
        rcases List.mem_or_eq_of_mem_set hx with hx | hx
        · exact h x hx hf
        · rw [hx] at hf; cases hf
theorem nF_freshL {ds : List Slot} : ∀ k, k ≤ ds.length → (freshL ds k).length = nF ds k
  | 0, _ => rfl
  | k + 1, h => by
    obtain ⟨s, hs⟩ : ∃ s, ds[k]? = some s := ⟨_, List.getElem?_eq_getElem (by omega)⟩
    rw [freshL_snoc hs, nF_snoc hs, List.length_append, nF_freshL k (by omega)]
    split <;> rfl
end Go.X
/- A string turned into bytes: a new row, read only. -/
namespace Go.X
open Go
section
variable {P : Program} [T : Tab P] {r : Option Nat} {w0 : World} {B : List Nat} {n : Nat} {Q : Post} {e : Env} {ds : List Deferred} {L : Heap}
/-- the row behind a conversion of bytes -/
abbrev rowB (b : Nat) (l : List UInt8) (pad : List Value) (t : TypeId) (m : Nat × Nat) : Ent := .obj b (.cells (bcells l ++ pad).toArray t m)
theorem Makes.strBytes {s d ty el : TypeId} {x : Operand} {l : List UInt8} (hx : ev e x = some (str l)) (hs : T.und s = some .string) (hd : T.und d = some (.slice el)) (he : T.und el = some (.int .u8)) :
    Makes P r w0 B n ds L (.convert s d x) ty e (fun v H => ∃ b c pad m, v = .slice (some ⟨b, 0, none⟩) l.length c ∧ l.length ≤ c ∧ H = [rowB b l pad el m]) := by
  refine .run (by simp) fun ρ d' pos af g w hρ _ _ => ?_
  have hsz : (⟨⟨l⟩⟩ : ByteArray).size = l.length := rfl
  have hge := grownCap_ge w l.length 0 el
  have hcells : Lib.bytesCells w el ⟨⟨l⟩⟩ = (bcells l ++ List.replicate (grownCap w l.length 0 el - l.length) (Value.int .u8 0)).toArray := by
    unfold Lib.bytesCells
    rw [hsz]
    apply Array.ext'
    simp [bcells]
  refine ⟨_, [rowB w.heap.size l (List.replicate (grownCap w l.length 0 el - l.length) (Value.int .u8 0)) el ((Lib.bytesCells w el ⟨⟨l⟩⟩).size, (Lib.bytesCells w el ⟨⟨l⟩⟩).size + 1)], Lib.bytesWorld w el ⟨⟨l⟩⟩, ?_, ⟨w.heap.size, grownCap w l.length 0 el, _, _, rfl, hge, rfl⟩, ?_, ?_, ?_⟩
  · simp only [execOp, hρ x (by simp [Op.operands]) _ hx, Sem.run_bind]
    rw [Lib.run_convert_string_bytes w s d el ⟨⟨l⟩⟩ (T.hund _ _ hs) (T.hund _ _ hd) (T.hund _ _ he)]
    rfl
  · refine ⟨rfl, rfl, rfl, ?_, fun b hb _ => Lib.bytesWorld_at_old w el _ b hb, fun a ha => ?_⟩
    · rw [Lib.bytesWorld_size]; omega
    · simp only [World.frozen?, Lib.bytesWorld_at_old w el _ a.block ha]
  · refine ⟨fun y hy => ?_, by simp [X.ids, Ent.ids]⟩
    obtain rfl := List.mem_singleton.1 hy
    show _ = some _
    rw [Lib.bytesWorld_at_new, ← hcells]
  · intro b hb
    simp [X.ids, Ent.ids] at hb
    omega
theorem Rd.rowB {b c m : Nat} {l : List UInt8} {pad : List Value} {t : TypeId} {f : Nat × Nat} (hm : X.rowB b l pad t f ∈ L) (hl : m = l.length) (hc : l.length ≤ c) : Rd w0 B L (.slice (some ⟨b, 0, none⟩) m c) 1 m (bcells l) := fun w ho _ => by
  subst hl
  have h : w.heap[b]? = some _ := ho.ok _ hm
  refine ⟨_, _, rfl, by simp, hc, .inr ⟨b, 0, bcells l ++ pad, t, f, rfl, h, ?_⟩⟩
  rw [cut_some (by simp)]
  simp
end
end Go.X
/- Package codec: what a Writer does. -/
namespace Go.X
open Go Go.Proofs
abbrev wrB (b : Nat) (v : Value) : Ent := .blk b [v] 156
abbrev wrG (b : Nat) (v : Value) (l : List UInt8) : Heap := [wrB b v, .sl v 5 1 (bcells l)]
abbrev wrE (b : Nat) (v : Value) (l : List UInt8) : Ent := grp (wrG b v l)
theorem wwrite_ok (b : Nat) (v u : Value) (l m : List UInt8) (w : World) (hr : ∀ w', Kept (ids (wrG b v l)) w w' → RowAt w' u 1 m.length (bcells m)) (hl : l.length + m.length ≤ 1000000) (ho : Owns w (wrG b v l)) :
    Fx Tryz.prog 123 [ptr b, u] w (Ret w (wrG b v l) (fun _ : Value => .tuple #[]) (fun v' => wrG b v' (l ++ m)) (fun _ => True)) := by
  obtain ⟨ao, c, rfl, _, _⟩ := hr w (.refl _ _)
  refine Fx.of Tryz.func123 rfl (by kernel_rfl) Tryz.ntmps123 rfl ho ?_
  refine XC.slv (.tail _ (.head _)) fun a1 q1 m1 hv hq _ => ?_
  subst hv
  obtain rfl : q1 = l.length := by simpa using hq
  refine go (k := ?_)
  refine XL.app (m := m.length) (news := bcells m) (L' := fun v' => [wrB b (.slice a1 l.length m1), .sl v' 5 1 (bcells l ++ bcells m)]) rfl rfl rfl rfl rfl rfl (by decide) (.tail _ (.head _)) (fun w' _ hk => hr w' hk) (bcells_one m) (by simp; omega) (by simp; omega) (fun _ => .there .here) rfl fun v' => ?_
  refine XL.slv (.tail _ (.head _)) fun a2 q2 m2 hv hq2 _ => ?_
  subst hv
  refine go (k := ?_)
  rw [← List.map_append]
  exact XE.end0 (Value.slice a2 q2 m2) [0, 1] rfl trivial rfl rfl rfl
theorem wraw_ok (b : Nat) (v : Value) (l m : List UInt8) (w : World) (hl : l.length + m.length ≤ 1000000) (ho : Owns w (wrG b v l)) :
    Fx Tryz.prog 94 [ptr b, str m] w (Ret w (wrG b v l) (fun _ : Value => .tuple #[]) (fun v' => wrG b v' (l ++ m)) (fun _ => True)) := by
  refine Fx.of Tryz.func94 rfl (by kernel_rfl) Tryz.ntmps94 rfl ho ?_
  refine go (k := ?_)
  refine XL.make (.strBytes rfl rfl rfl rfl) rfl fun _ _ hv => ?_
  obtain ⟨bs, c, pad, f, rfl, hc, rfl⟩ := hv
  refine go (k := ?_)
  refine XL.call [1, 2] [0] rfl rfl rfl rfl rfl (fun _ w1 hs ho => wwrite_ok b v _ l m w1 (fun w' hk => by
    have hb : w1.heap[bs]? = some _ := hs.own.ok _ (.head _)
    have hb' : w'.heap[bs]? = _ := (hk.same bs (Array.getElem?_eq_some_iff.1 hb).1 (fun h => (Owns.apart (L := [rowB bs m pad _ f]) hs.own) bs (by simp [X.ids, Ent.ids]) h)).trans hb
    exact ⟨_, _, rfl, by simp, hc, .inr ⟨bs, 0, _, _, _, rfl, hb', by rw [cut_some (by simp)]; simp⟩⟩) hl ho) fun v' _ => ?_
  refine go (k := ?_)
  exact XE.end0 v' [0, 1] rfl trivial rfl rfl rfl
theorem wbytes_ok (b : Nat) (v : Value) (l : List UInt8) (w : World) (ho : Owns w (wrG b v l)) : Fx Tryz.prog 96 [ptr b] w (Pure w (str l)) := by
  have hown : ∀ w', Kept [] w w' → Owns w' (wrG b v l) := fun w' k => ho.of_kept k (fun _ _ h => by cases h)
  have hb : w.heap[b]? = some (.cells [v].toArray _ (0, 0)) := ho.ok _ (.head _)
  have hB : b ∉ ids ([] : Heap) := by simp [X.ids]
  have h0 : [v][0 + 0]? = some v := rfl
  have hrow : ∀ w', Kept [] w w' → RowAt w' v 1 l.length (bcells l) := fun w' k => ((hown w' k).ok _ (.tail _ (.head _)) : SlOk w' v _ 1 _).rowAt (by decide) (by simp)
  refine Fx.of (L0 := []) Tryz.func96 rfl (by kernel_rfl) Tryz.ntmps96 rfl (Owns.nil w) ?_
  refine go (k := ?_)
  refine XL.q (.bytesStr rfl rfl rfl rfl (fun w' _ hk => hrow w' hk)) rfl ?_
  refine go (k := ?_)
  exact XE.ret1 () [] rfl rfl trivial rfl rfl rfl
/-- the last k bytes of a number, the greatest first -/
def be (n : Nat) : Nat → List UInt8
  | 0 => []
  | k + 1 => UInt8.ofNat (n / 256 ^ k % 256) :: be n k
theorem be_len (n : Nat) : ∀ k, (be n k).length = k
  | 0 => rfl
  | k + 1 => by rw [be, List.length_cons, be_len n k]
theorem be_byte (n j : Nat) (hj : j ≤ 3) : IntKind.u8.wrap (shrOp .u32 (n : Int) (8 * (((j + 1 : Nat) : Int) - 1))) = ((UInt8.ofNat (n / 256 ^ j % 256)).toNat : Int) := by
  have hw : ∀ x : Int, IntKind.u8.wrap x = x % 256 := fun x => rfl
  rw [hw, UInt8.toNat_ofNat']
  unfold shrOp
  rcases (by omega : j = 0 ∨ j = 1 ∨ j = 2 ∨ j = 3) with rfl | rfl | rfl | rfl
  · show ((n : Int).fdiv 1) % 256 = _
    rw [Int.fdiv_eq_ediv_of_nonneg _ (by decide)]; omega
  · show ((n : Int).fdiv 256) % 256 = _
    rw [Int.fdiv_eq_ediv_of_nonneg _ (by decide)]; omega
  · show ((n : Int).fdiv 65536) % 256 = _
    rw [Int.fdiv_eq_ediv_of_nonneg _ (by decide)]; omega
  · show ((n : Int).fdiv 16777216) % 256 = _
    rw [Int.fdiv_eq_ediv_of_nonneg _ (by decide)]; omega
theorem put8_ok (b : Nat) (v : Value) (l : List UInt8) (n k : Nat) (w : World) (hn : n < 256) (hk : k ≤ 4) (hl : l.length + k ≤ 1000000) (ho : Owns w (wrG b v l)) :
    Fx Tryz.prog 127 [ptr b, .int .u8 n, iv k] w (Ret w (wrG b v l) (fun _ : Value => .tuple #[]) (fun v' => wrG b v' (l ++ be n k)) (fun _ => True)) := by
  refine Fx.of Tryz.func127 rfl (by kernel_rfl) Tryz.ntmps127 rfl ho ?_
  refine go (k := ?_)
  refine XC.loop (α := Nat × Value × List UInt8) (fun x => [(0, ptr b), (1, .int .u8 n), (2, iv x.1)]) (fun x => wrG b x.2.1 x.2.2) (fun x => x.1 ≤ k ∧ x.2.2 ++ be n x.1 = l ++ be n k) (fun x => x.1) (k, v, l) [0, 1] ⟨Nat.le_refl _, rfl⟩ ⟨rfl, rfl, rfl, trivial⟩ rfl rfl ?_
  rintro ⟨j, v', l'⟩ ⟨hj, he⟩
  simp only at hj he ⊢
  cases j with
  | zero =>
    rw [be, List.append_nil] at he
    subst he
    refine go (k := ?_)
    exact XE.end0 v' [0, 1] rfl trivial rfl rfl rfl
  | succ j =>
    have hlen : l'.length + (j + 1) = l.length + k := by have := congrArg List.length he; simpa [be_len] using this
    refine go (k := ?_)
    rw [be_byte n j (by omega)]
    refine XL.make (.bslice rfl rfl rfl rfl rfl rfl) rfl fun _ _ hb => ?_
    obtain ⟨bs, rfl, rfl⟩ := hb
    refine XL.call [1, 2] [0] rfl rfl rfl rfl rfl (fun _ w1 hs ho => wwrite_ok b v' _ l' [UInt8.ofNat (n / 256 ^ j % 256)] w1 (fun w' hk => by
      have hb : w1.heap[bs]? = some _ := hs.own.ok _ (.head _)
      have hb' : w'.heap[bs]? = _ := (hk.same bs (Array.getElem?_eq_some_iff.1 hb).1 (fun h => (Owns.apart (L := [.blk bs _ _]) hs.own) bs (by simp [X.ids, Ent.ids]) h)).trans hb
      exact ⟨_, _, rfl, rfl, Nat.le_refl _, .inr ⟨bs, 0, _, _, _, rfl, hb', rfl⟩⟩) (by simp; omega) ho) fun v2 _ => ?_
    rw [show (((j + 1 : Nat) : Int) - 1) = (j : Int) by omega]
    refine go (k := ?_)
    exact XE.mid (j, v2, l' ++ [UInt8.ofNat (n / 256 ^ j % 256)]) [0, 1] ⟨⟨by simp only; omega, by simp only; rw [List.append_assoc]; exact he⟩, by simp⟩ ⟨rfl, rfl, rfl, trivial⟩ rfl rfl
theorem put16_ok (b : Nat) (v : Value) (l : List UInt8) (n k : Nat) (w : World) (hn : n < 65536) (hk : k ≤ 4) (hl : l.length + k ≤ 1000000) (ho : Owns w (wrG b v l)) :
    Fx Tryz.prog 126 [ptr b, .int .u16 n, iv k] w (Ret w (wrG b v l) (fun _ : Value => .tuple #[]) (fun v' => wrG b v' (l ++ be n k)) (fun _ => True)) := by
  refine Fx.of Tryz.func126 rfl (by kernel_rfl) Tryz.ntmps126 rfl ho ?_
  refine go (k := ?_)
  refine XC.loop (α := Nat × Value × List UInt8) (fun x => [(0, ptr b), (1, .int .u16 n), (2, iv x.1)]) (fun x => wrG b x.2.1 x.2.2) (fun x => x.1 ≤ k ∧ x.2.2 ++ be n x.1 = l ++ be n k) (fun x => x.1) (k, v, l) [0, 1] ⟨Nat.le_refl _, rfl⟩ ⟨rfl, rfl, rfl, trivial⟩ rfl rfl ?_
  rintro ⟨j, v', l'⟩ ⟨hj, he⟩
  simp only at hj he ⊢
  cases j with
  | zero =>
    rw [be, List.append_nil] at he
    subst he
    refine go (k := ?_)
    exact XE.end0 v' [0, 1] rfl trivial rfl rfl rfl
  | succ j =>
    have hlen : l'.length + (j + 1) = l.length + k := by have := congrArg List.length he; simpa [be_len] using this
    refine go (k := ?_)
    rw [be_byte n j (by omega)]
    refine XL.make (.bslice rfl rfl rfl rfl rfl rfl) rfl fun _ _ hb => ?_
    obtain ⟨bs, rfl, rfl⟩ := hb
    refine XL.call [1, 2] [0] rfl rfl rfl rfl rfl (fun _ w1 hs ho => wwrite_ok b v' _ l' [UInt8.ofNat (n / 256 ^ j % 256)] w1 (fun w' hk => by
      have hb : w1.heap[bs]? = some _ := hs.own.ok _ (.head _)
      have hb' : w'.heap[bs]? = _ := (hk.same bs (Array.getElem?_eq_some_iff.1 hb).1 (fun h => (Owns.apart (L := [.blk bs _ _]) hs.own) bs (by simp [X.ids, Ent.ids]) h)).trans hb
      exact ⟨_, _, rfl, rfl, Nat.le_refl _, .inr ⟨bs, 0, _, _, _, rfl, hb', rfl⟩⟩) (by simp; omega) ho) fun v2 _ => ?_
    rw [show (((j + 1 : Nat) : Int) - 1) = (j : Int) by omega]
    refine go (k := ?_)
    exact XE.mid (j, v2, l' ++ [UInt8.ofNat (n / 256 ^ j % 256)]) [0, 1] ⟨⟨by simp only; omega, by simp only; rw [List.append_assoc]; exact he⟩, by simp⟩ ⟨rfl, rfl, rfl, trivial⟩ rfl rfl
theorem put32_ok (b : Nat) (v : Value) (l : List UInt8) (n k : Nat) (w : World) (_hn : n < 4294967296) (hk : k ≤ 4) (hl : l.length + k ≤ 1000000) (ho : Owns w (wrG b v l)) :
    Fx Tryz.prog 122 [ptr b, .int .u32 n, iv k] w (Ret w (wrG b v l) (fun _ : Value => .tuple #[]) (fun v' => wrG b v' (l ++ be n k)) (fun _ => True)) := by
  refine Fx.of Tryz.func122 rfl (by kernel_rfl) Tryz.ntmps122 rfl ho ?_
  refine go (k := ?_)
  refine XC.loop (α := Nat × Value × List UInt8) (fun x => [(0, ptr b), (1, .int .u32 n), (2, iv x.1)]) (fun x => wrG b x.2.1 x.2.2) (fun x => x.1 ≤ k ∧ x.2.2 ++ be n x.1 = l ++ be n k) (fun x => x.1) (k, v, l) [0, 1] ⟨Nat.le_refl _, rfl⟩ ⟨rfl, rfl, rfl, trivial⟩ rfl rfl ?_
  rintro ⟨j, v', l'⟩ ⟨hj, he⟩
  simp only at hj he ⊢
  cases j with
  | zero =>
    rw [be, List.append_nil] at he
    subst he
    refine go (k := ?_)
    exact XE.end0 v' [0, 1] rfl trivial rfl rfl rfl
  | succ j =>
    have hlen : l'.length + (j + 1) = l.length + k := by have := congrArg List.length he; simpa [be_len] using this
    refine go (k := ?_)
    rw [be_byte n j (by omega)]
    refine XL.make (.bslice rfl rfl rfl rfl rfl rfl) rfl fun _ _ hb => ?_
    obtain ⟨bs, rfl, rfl⟩ := hb
    refine XL.call [1, 2] [0] rfl rfl rfl rfl rfl (fun _ w1 hs ho => wwrite_ok b v' _ l' [UInt8.ofNat (n / 256 ^ j % 256)] w1 (fun w' hk => by
      have hb : w1.heap[bs]? = some _ := hs.own.ok _ (.head _)
      have hb' : w'.heap[bs]? = _ := (hk.same bs (Array.getElem?_eq_some_iff.1 hb).1 (fun h => (Owns.apart (L := [.blk bs _ _]) hs.own) bs (by simp [X.ids, Ent.ids]) h)).trans hb
      exact ⟨_, _, rfl, rfl, Nat.le_refl _, .inr ⟨bs, 0, _, _, _, rfl, hb', rfl⟩⟩) (by simp; omega) ho) fun v2 _ => ?_
    rw [show (((j + 1 : Nat) : Int) - 1) = (j : Int) by omega]
    refine go (k := ?_)
    exact XE.mid (j, v2, l' ++ [UInt8.ofNat (n / 256 ^ j % 256)]) [0, 1] ⟨⟨by simp only; omega, by simp only; rw [List.append_assoc]; exact he⟩, by simp⟩ ⟨rfl, rfl, rfl, trivial⟩ rfl rfl
theorem wu8_ok (b : Nat) (v : Value) (l : List UInt8) (n : Nat) (w : World) (hn : n < 256) (hl : l.length ≤ 900000) (ho : Owns w (wrG b v l)) :
    Fx Tryz.prog 110 [ptr b, .int .u8 n] w (Ret w (wrG b v l) (fun _ : Value => .tuple #[]) (fun v' => wrG b v' (l ++ be n 1)) (fun _ => True)) := by
  refine Fx.of Tryz.func110 rfl (by kernel_rfl) Tryz.ntmps110 rfl ho ?_
  refine go (k := ?_)
  refine XL.call [0, 1] [] rfl rfl rfl rfl rfl (fun _ w1 _ ho => put8_ok b v l n 1 w1 hn (by decide) (by omega) ho) fun v' _ => ?_
  refine go (k := ?_)
  exact XE.end0 v' [0, 1] rfl trivial rfl rfl rfl
theorem wu16_ok (b : Nat) (v : Value) (l : List UInt8) (n : Nat) (w : World) (hn : n < 65536) (hl : l.length ≤ 900000) (ho : Owns w (wrG b v l)) :
    Fx Tryz.prog 109 [ptr b, .int .u16 n] w (Ret w (wrG b v l) (fun _ : Value => .tuple #[]) (fun v' => wrG b v' (l ++ be n 2)) (fun _ => True)) := by
  refine Fx.of Tryz.func109 rfl (by kernel_rfl) Tryz.ntmps109 rfl ho ?_
  refine go (k := ?_)
  refine XL.call [0, 1] [] rfl rfl rfl rfl rfl (fun _ w1 _ ho => put16_ok b v l n 2 w1 hn (by decide) (by omega) ho) fun v' _ => ?_
  refine go (k := ?_)
  exact XE.end0 v' [0, 1] rfl trivial rfl rfl rfl
theorem wu32_ok (b : Nat) (v : Value) (l : List UInt8) (n : Nat) (w : World) (hn : n < 4294967296) (hl : l.length ≤ 900000) (ho : Owns w (wrG b v l)) :
    Fx Tryz.prog 93 [ptr b, .int .u32 n] w (Ret w (wrG b v l) (fun _ : Value => .tuple #[]) (fun v' => wrG b v' (l ++ be n 4)) (fun _ => True)) := by
  refine Fx.of Tryz.func93 rfl (by kernel_rfl) Tryz.ntmps93 rfl ho ?_
  refine go (k := ?_)
  refine XL.call [0, 1] [] rfl rfl rfl rfl rfl (fun _ w1 _ ho => put32_ok b v l n 4 w1 hn (by decide) (by omega) ho) fun v' _ => ?_
  refine go (k := ?_)
  exact XE.end0 v' [0, 1] rfl trivial rfl rfl rfl
end Go.X
