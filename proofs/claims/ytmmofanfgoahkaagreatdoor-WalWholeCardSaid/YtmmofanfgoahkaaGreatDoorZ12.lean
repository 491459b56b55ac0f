/- A device in memory: its slots. -/
import Derived.Test.YtmmofanfgoahkaaGreatDoorZ9
import Derived.Test.YtmmofanfgoahkaaGreatDoorTab
namespace Go.X
open Go Go.Proofs
abbrev iv (n : Int) : Value := .int .i64 n
abbrev ivs (l : List Int) : List Value := l.map iv
theorem ivs_one (l : List Int) : (ivs l).all Value.oneCell' = true := by simp [ivs, Value.oneCell']
theorem ivs_app (l m : List Int) : ivs (l ++ m) = ivs l ++ ivs m := List.map_append
theorem ivs_len (l : List Int) : (ivs l).length = l.length := List.length_map _
abbrev ptr (b : Nat) : Value := .pointer (some ⟨b, 0, none⟩)
abbrev Pure (w : World) (v : Value) : Ending → World → Prop := Ret w [] (fun _ : Unit => v) (fun _ => []) (fun _ => True)
theorem bcells_len (l : List UInt8) : (bcells l).length = l.length := List.length_map _
theorem bcells_one (l : List UInt8) : (bcells l).all Value.oneCell' = true := by simp [bcells, Value.oneCell']
theorem bcells_app (l m : List UInt8) : bcells (l ++ m) = bcells l ++ bcells m := List.map_append
structure Slot where
  firm : List UInt8
  read : List UInt8
  fresh : Bool
def Slot.ok (s : Slot) : Prop := s.firm.length = 64 ∧ s.read.length = 64
def slc (s : Slot) : List Value := bcells s.firm ++ (bcells s.read ++ [.bool s.fresh])
def dcs (ds : List Slot) : List Value := ds.flatMap slc
def Oks (ds : List Slot) : Prop := ∀ s ∈ ds, s.ok
theorem slc_len {s : Slot} (h : s.ok) : (slc s).length = 129 := by
  obtain ⟨h1, h2⟩ := h
  simp [slc, h1, h2]
theorem slc_one (s : Slot) : (slc s).all Value.oneCell' = true := by
  simp only [slc, List.all_append, bcells_one, Bool.true_and]; rfl
theorem dcs_one (ds : List Slot) : (dcs ds).all Value.oneCell' = true := by
  induction ds with
  | nil => rfl
  | cons s ds ih => simp only [dcs, List.flatMap_cons, List.all_append, slc_one, Bool.true_and]; exact ih
theorem dcs_cons (s : Slot) (ds : List Slot) : dcs (s :: ds) = slc s ++ dcs ds := rfl
theorem dcs_app (a b : List Slot) : dcs (a ++ b) = dcs a ++ dcs b := List.flatMap_append
theorem dcs_len : ∀ {ds : List Slot}, Oks ds → (dcs ds).length = ds.length * 129
  | [], _ => rfl
  | s :: ds, h => by
    rw [dcs_cons, List.length_append, slc_len (h s (.head _)), dcs_len (fun x hx => h x (.tail _ hx)), List.length_cons]; omega
theorem Oks.set {ds : List Slot} (h : Oks ds) {k : Nat} {s : Slot} (hs : s.ok) : Oks (ds.set k s) := fun x hx =>
  (List.mem_or_eq_of_mem_set hx).elim (h x) (fun e => e ▸ hs)
theorem Oks.take {ds : List Slot} (h : Oks ds) (k : Nat) : Oks (ds.take k) := fun x hx => h x (List.mem_of_mem_take hx)
theorem Oks.drop {ds : List Slot} (h : Oks ds) (k : Nat) : Oks (ds.drop k) := fun x hx => h x (List.mem_of_mem_drop hx)
theorem list_split {α : Type} {l : List α} {k : Nat} {x : α} (h : l[k]? = some x) : l = l.take k ++ x :: l.drop (k + 1) := by
  have hlt := (List.getElem?_eq_some_iff.1 h).1
  rw [← (List.getElem?_eq_some_iff.1 h).2, ← List.drop_eq_getElem_cons hlt, List.take_append_drop]
theorem dcs_split {ds : List Slot} (ho : Oks ds) {k : Nat} {s : Slot} (h : ds[k]? = some s) (rest : List Value) : ∃ A C, dcs ds ++ rest = A ++ (slc s ++ C) ∧ A.length = k * 129 ∧ ∀ s' : Slot, dcs (ds.set k s') ++ rest = A ++ (slc s' ++ C) := by
  have hlt := (List.getElem?_eq_some_iff.1 h).1
  refine ⟨dcs (ds.take k), dcs (ds.drop (k + 1)) ++ rest, ?_, ?_, fun s' => ?_⟩
  · conv => lhs; rw [list_split h]
    rw [dcs_app, dcs_cons, List.append_assoc, List.append_assoc]
  · rw [dcs_len (ho.take k), List.length_take, Nat.min_eq_left (by omega)]
  · rw [List.set_eq_take_append_cons_drop, if_pos hlt, dcs_app, dcs_cons, List.append_assoc, List.append_assoc]
theorem dcs_at {ds : List Slot} (ho : Oks ds) {k : Nat} {s : Slot} (h : ds[k]? = some s) (rest : List Value) {j : Nat} (hj : j < 129) : (dcs ds ++ rest)[k * 129 + j]? = (slc s)[j]? := by
  obtain ⟨A, C, e, hA, _⟩ := dcs_split ho h rest
  have hs := slc_len (ho s (List.mem_of_getElem? h))
  rw [e, List.getElem?_append_right (by omega), hA, Nat.add_sub_cancel_left, List.getElem?_append_left (by omega)]
theorem dcs_cut {ds : List Slot} (ho : Oks ds) {k : Nat} {s : Slot} (h : ds[k]? = some s) (rest : List Value) {j m : Nat} (hj : j + m ≤ 129) : cut (dcs ds ++ rest) (k * 129 + j) m = some (((slc s).drop j).take m) := by
  obtain ⟨A, C, e, hA, _⟩ := dcs_split ho h rest
  have hs := slc_len (ho s (List.mem_of_getElem? h))
  rw [e, cut_some (by simp only [List.length_append]; omega)]
  congr 1
  rw [← hA, ← List.drop_drop, List.drop_left, List.drop_append_of_le_length (by omega), List.take_append_of_le_length (by rw [List.length_drop]; omega)]
theorem SplL.left {cs cs' news : List Value} {j : Nat} (A : List Value) (h : SplL cs j news cs') : SplL (A ++ cs) (A.length + j) news (A ++ cs') := by
  obtain ⟨h1, h2⟩ := h
  refine ⟨by rw [List.length_append]; omega, ?_⟩
  rw [h2, show A.length + j + news.length = A.length + (j + news.length) by omega, List.take_length_add_append, List.drop_length_add_append]
  simp
theorem SplL.right {cs cs' news : List Value} {j : Nat} (C : List Value) (h : SplL cs j news cs') : SplL (cs ++ C) j news (cs' ++ C) := by
  obtain ⟨h1, h2⟩ := h
  refine ⟨by rw [List.length_append]; omega, ?_⟩
  rw [h2, List.take_append_of_le_length (by omega), List.drop_append_of_le_length h1]
  simp
theorem dcs_spl {ds : List Slot} (ho : Oks ds) {k : Nat} {s s' : Slot} (h : ds[k]? = some s) (rest : List Value) {j : Nat} {news : List Value} (hp : SplL (slc s) j news (slc s')) : SplL (dcs ds ++ rest) (k * 129 + j) news (dcs (ds.set k s') ++ rest) := by
  obtain ⟨A, C, e, hA, he⟩ := dcs_split ho h rest
  rw [he s', e, ← hA]
  exact (hp.right C).left A
end Go.X
/- Contracts of package device: at, New, Write, Read, Firm, Blocks. -/
namespace Go.X
open Go Go.Proofs
abbrev devB (b : Nat) (lv : Value) : Ent := .blk b [lv] 84
abbrev devS (lv : Value) (ds : List Slot) : Ent := .sl lv 150 129 (dcs ds)
abbrev devG (b : Nat) (lv : Value) (ds : List Slot) : Heap := [devB b lv, devS lv ds]
abbrev devE (b : Nat) (lv : Value) (ds : List Slot) : Ent := grp (devG b lv ds)
theorem dat_nil (k : Int) (w : World) : Fx Tryz.prog 91 [.pointer none, iv k] w (Pure w (.tuple #[.pointer none, iv 1])) := by
  refine Fx.of (L0 := []) Tryz.func91 rfl (by kernel_rfl) Tryz.ntmps91 rfl (Owns.nil w) ?_
  refine go (k := ?_)
  exact XE.ret2 () [] rfl rfl rfl trivial rfl rfl rfl
theorem dat_zero (b : Nat) (ao : Option Addr) (c : Nat) (k : Int) (t : TypeId) (fz : Nat × Nat) (w : World) (hb : w.heap[b]? = some (.cells [.slice ao 0 c].toArray t fz)) : Fx Tryz.prog 91 [ptr b, iv k] w (Pure w (.tuple #[.pointer none, iv 1])) := by
  refine Fx.of (L0 := []) Tryz.func91 rfl (by kernel_rfl) Tryz.ntmps91 rfl (Owns.nil w) ?_
  have hB : b ∉ ids ([] : Heap) := by simp [X.ids]
  have h0 : [Value.slice ao 0 c][0 + 0]? = some (Value.slice ao 0 c) := rfl
  refine go (k := ?_)
  exact XE.ret2 () [] rfl rfl rfl trivial rfl rfl rfl
theorem dat_out (b : Nat) (ao : Option Addr) (m c : Nat) (k : Int) (t : TypeId) (fz : Nat × Nat) (w : World) (hm : 0 < m) (hk : k < 0 ∨ m ≤ k) (hb : w.heap[b]? = some (.cells [.slice ao m c].toArray t fz)) : Fx Tryz.prog 91 [ptr b, iv k] w (Pure w (.tuple #[.pointer none, iv 2])) := by
  refine Fx.of (L0 := []) Tryz.func91 rfl (by kernel_rfl) Tryz.ntmps91 rfl (Owns.nil w) ?_
  have hB : b ∉ ids ([] : Heap) := by simp [X.ids]
  have h0 : [Value.slice ao m c][0 + 0]? = some (Value.slice ao m c) := rfl
  by_cases h1 : k < 0
  · refine go (k := ?_)
    exact XE.ret2 () [] rfl rfl rfl trivial rfl rfl rfl
  · have h2 : (m : Int) ≤ k := by omega
    refine go (k := ?_)
    exact XE.ret2 () [] rfl rfl rfl trivial rfl rfl rfl
theorem dat_in (b b1 off m c k : Nat) (t : TypeId) (fz : Nat × Nat) (w : World) (hk : k < m) (hb : w.heap[b]? = some (.cells [.slice (some ⟨b1, off, none⟩) m c].toArray t fz)) :
    Fx Tryz.prog 91 [ptr b, iv k] w (Pure w (.tuple #[.pointer (some ⟨b1, off + k * 129, none⟩), iv 0])) := by
  refine Fx.of (L0 := []) Tryz.func91 rfl (by kernel_rfl) Tryz.ntmps91 rfl (Owns.nil w) ?_
  have hB : b ∉ ids ([] : Heap) := by simp [X.ids]
  have h0 : [Value.slice (some ⟨b1, off, none⟩) m c][0 + 0]? = some (Value.slice (some ⟨b1, off, none⟩) m c) := rfl
  refine go (k := ?_)
  exact XE.ret2 () [] rfl rfl rfl trivial rfl rfl rfl
/-! ### New -/
def zbytes (n : Nat) : List UInt8 := List.replicate n 0
def slot0 : Slot := ⟨zbytes 64, zbytes 64, false⟩
theorem slot0_ok : slot0.ok := ⟨by simp [slot0, zbytes], by simp [slot0, zbytes]⟩
theorem zeros_slot (n : Nat) : zerosL (slc slot0) n = dcs (List.replicate n slot0) := by
  induction n with
  | zero => rfl
  | succ n ih => rw [zerosL, ih, List.replicate_succ, dcs_cons]
theorem dnew_none (n : Int) (w : World) (h : n < 256 ∨ 2048 < n) : Fx Tryz.prog 9 [iv n] w (Pure w (.pointer none)) := by
  refine Fx.of (L0 := []) Tryz.func9 rfl (by kernel_rfl) Tryz.ntmps9 rfl (Owns.nil w) ?_
  by_cases h1 : n < 256
  · refine go (k := ?_)
    exact XE.ret1 () [] rfl rfl trivial rfl rfl rfl
  · have h2 : 2048 < n := by omega
    refine go (k := ?_)
    exact XE.ret1 () [] rfl rfl trivial rfl rfl rfl
theorem dnew_ok (n : Nat) (w : World) (h1 : 256 ≤ n) (h2 : n ≤ 2048) : Fx Tryz.prog 9 [iv n] w (Ret w [] (fun x : Nat × Value => ptr x.1) (fun x => [devE x.1 x.2 (List.replicate n slot0)]) (fun _ => True)) := by
  refine Fx.of (L0 := []) Tryz.func9 rfl (by kernel_rfl) Tryz.ntmps9 rfl (Owns.nil w) ?_
  refine go (k := ?_)
  refine XL.make (.mslice rfl rfl rfl rfl rfl (Nat.le_refl _) (by omega) (by omega)) rfl fun v H hv => ?_
  obtain ⟨b1, rfl, rfl⟩ := hv
  refine go (k := ?_)
  refine XL.box rfl rfl rfl fun b => ?_
  refine go (k := ?_)
  have hl : (dcs (List.replicate n slot0)).length = n * 129 := by rw [dcs_len (fun s hs => by rw [(List.mem_replicate.1 hs).2]; exact slot0_ok), List.length_replicate]
  refine XE.shutSl (m := n) (cap := n) (k := 129) (xs := dcs (List.replicate n slot0)) (.tail _ (.head _)) hl.symm (Nat.le_refl _) (by rw [zerosL_length]; exact Nat.le_refl _) ?_ (.there .here) ?_
  · show (zerosL (slc slot0) n).take _ = _
    rw [zeros_slot, List.take_length]
  refine XE.all ?_
  exact XE.ret1 (b, .slice (some ⟨b1, 0, none⟩) n n) [0] rfl rfl trivial rfl rfl rfl
/-! ### reading -/
theorem dev_row {b : Nat} {lv : Value} {ds : List Slot} {w : World} (ho : Owns w (devG b lv ds)) (hk : Oks ds) (hn : 0 < ds.length) :
    ∃ b1 off c cs t fz, lv = .slice (some ⟨b1, off, none⟩) ds.length c ∧ w.heap[b]? = some (.cells [lv].toArray 84 (0, 0)) ∧ w.heap[b1]? = some (.cells cs t fz) ∧ cut cs.toList off (dcs ds).length = some (dcs ds) := by
  have hb : w.heap[b]? = some (.cells [lv].toArray 84 (0, 0)) := ho.ok _ (.head _)
  obtain ⟨ao, c, rfl, h1, h2, h3⟩ := (ho.ok _ (.tail _ (.head _)) : SlOk w lv 150 129 _).rowAt (m := ds.length) (by decide) (dcs_len hk).symm
  rcases h3 with h3 | ⟨b1, off, cs, t, fz, rfl, h5, h6⟩
  · omega
  · exact ⟨b1, off, c, cs.toArray, t, fz, rfl, hb, h5, by simpa using h6⟩
theorem blocks_nil (w : World) : Fx Tryz.prog 40 [.pointer none] w (Pure w (iv 0)) := by
  refine Fx.of (L0 := []) Tryz.func40 rfl (by kernel_rfl) Tryz.ntmps40 rfl (Owns.nil w) ?_
  refine go (k := ?_)
  exact XE.ret1 () [] rfl rfl trivial rfl rfl rfl
theorem blocks_at (b : Nat) (ao : Option Addr) (m c : Nat) (t : TypeId) (fz : Nat × Nat) (w : World) (hb : w.heap[b]? = some (.cells [.slice ao m c].toArray t fz)) : Fx Tryz.prog 40 [ptr b] w (Pure w (iv m)) := by
  refine Fx.of (L0 := []) Tryz.func40 rfl (by kernel_rfl) Tryz.ntmps40 rfl (Owns.nil w) ?_
  have hB : b ∉ ids ([] : Heap) := by simp [X.ids]
  have h0 : [Value.slice ao m c][0 + 0]? = some (Value.slice ao m c) := rfl
  refine go (k := ?_)
  exact XE.ret1 () [] rfl rfl trivial rfl rfl rfl
theorem dev_lv {b : Nat} {lv : Value} {ds : List Slot} {w : World} (ho : Owns w (devG b lv ds)) (hk : Oks ds) : ∃ ao c, lv = .slice ao ds.length c := by
  obtain ⟨ao, n, c, rfl, h1, _, _⟩ := (ho.ok _ (.tail _ (.head _)) : SlOk w lv 150 129 _)
  rw [dcs_len hk] at h1
  obtain rfl : n = ds.length := by omega
  exact ⟨ao, c, rfl⟩
theorem blocks_ok (b : Nat) (lv : Value) (ds : List Slot) (w : World) (hk : Oks ds) (ho : Owns w (devG b lv ds)) : Fx Tryz.prog 40 [ptr b] w (Pure w (iv ds.length)) := by
  obtain ⟨ao, c, rfl⟩ := dev_lv ho hk
  exact blocks_at b ao _ c _ _ w (ho.ok _ (.head _))
/-- what at tells of a block that there is not -/
def errAt (n : Nat) (k : Int) : Option Int := if n = 0 then some 1 else if k < 0 ∨ n ≤ k then some 2 else none
theorem dat_err (b : Nat) (lv : Value) (ds : List Slot) (k e : Int) (w : World) (hk : Oks ds) (he : errAt ds.length k = some e) (ho : Owns w (devG b lv ds)) : Fx Tryz.prog 91 [ptr b, iv k] w (Pure w (.tuple #[.pointer none, iv e])) := by
  obtain ⟨ao, c, rfl⟩ := dev_lv ho hk
  have hb : w.heap[b]? = _ := ho.ok _ (.head _)
  unfold errAt at he
  split at he
  · rename_i h0
    cases he
    rw [h0] at hb
    exact dat_zero b ao c k _ _ w hb
  · split at he
    · rename_i h1
      cases he
      exact dat_out b ao _ c k _ _ w (by omega) h1 hb
    · cases he
theorem read_err (x : Value) (k e : Int) (w : World) (he : e ≠ 0) (h : ∀ w', Kept [] w w' → Fx Tryz.prog 91 [x, iv k] w' (Pure w' (.tuple #[.pointer none, iv e]))) : Fx Tryz.prog 112 [x, iv k] w (Pure w (.tuple #[str [], iv e])) := by
  refine Fx.of (L0 := []) Tryz.func112 rfl (by kernel_rfl) Tryz.ntmps112 rfl (Owns.nil w) ?_
  refine go (k := ?_)
  refine XL.q (.call rfl rfl fun _ w' hs => h w' hs.kept) rfl ?_
  refine go (k := ?_)
  exact XE.ret2 () [] rfl rfl rfl trivial rfl rfl rfl
theorem write_err (x : Value) (k e : Int) (s : List UInt8) (w : World) (he : e ≠ 0) (h : ∀ w', Kept [] w w' → Fx Tryz.prog 91 [x, iv k] w' (Pure w' (.tuple #[.pointer none, iv e]))) : Fx Tryz.prog 51 [x, iv k, str s] w (Pure w (iv e)) := by
  refine Fx.of (L0 := []) Tryz.func51 rfl (by kernel_rfl) Tryz.ntmps51 rfl (Owns.nil w) ?_
  refine go (k := ?_)
  refine XL.q (.call rfl rfl fun _ w' hs => h w' hs.kept) rfl ?_
  refine go (k := ?_)
  exact XE.ret1 () [] rfl rfl trivial rfl rfl rfl
theorem read_ok (b : Nat) (lv : Value) (ds : List Slot) (k : Nat) (s : Slot) (w : World) (hk : Oks ds) (hs : ds[k]? = some s) (ho : Owns w (devG b lv ds)) : Fx Tryz.prog 112 [ptr b, iv k] w (Pure w (.tuple #[str s.read, iv 0])) := by
  have hlt := (List.getElem?_eq_some_iff.1 hs).1
  have hsk := hk s (List.mem_of_getElem? hs)
  obtain ⟨b1, off, c, cs, t, fz, rfl, hb, hb1, hcut⟩ := dev_row ho hk (by omega)
  have hB : b1 ∉ ids ([] : Heap) := by simp [X.ids]
  have hrow : RowAt w (.slice (some ⟨b1, off + k * 129 + 64, none⟩) 64 64) 1 64 (bcells s.read) := ⟨_, _, rfl, by rw [bcells_len, hsk.2], Nat.le_refl _, .inr ⟨b1, _, cs.toList, t, fz, rfl, by simpa using hb1, by
    obtain ⟨g1, g2⟩ := cut_eq hcut
    have h2 := dcs_cut hk hs [] (j := 64) (m := 64) (by omega)
    rw [List.append_nil] at h2
    obtain ⟨g3, g4⟩ := cut_eq h2
    rw [bcells_len, hsk.2, cut_some (by omega)]
    have e1 : ((slc s).drop 64).take 64 = bcells s.read := by
      unfold slc
      rw [show 64 = (bcells s.firm).length by rw [bcells_len, hsk.1], List.drop_left, show (bcells s.firm).length = (bcells s.read).length by rw [bcells_len, bcells_len, hsk.1, hsk.2], List.take_left]
    rw [e1] at g4
    rw [g4]
    congr 1
    have g5 : (dcs ds).drop (k * 129 + 64) = ((cs.toList.drop off).take (dcs ds).length).drop (k * 129 + 64) := by rw [← g2]
    rw [g5, List.drop_take, List.take_take, List.drop_drop, Nat.min_eq_left (by omega), show off + (k * 129 + 64) = off + k * 129 + 64 by omega]⟩⟩
  refine Fx.of (L0 := []) Tryz.func112 rfl (by kernel_rfl) Tryz.ntmps112 rfl (Owns.nil w) ?_
  refine go (k := ?_)
  refine XL.q (.call rfl rfl fun _ w' hs => dat_in b b1 off _ c k _ _ w' hlt ((hs.kept.same b (Array.getElem?_eq_some_iff.1 hb).1 (by simp [X.ids])).trans hb)) rfl ?_
  refine go (k := ?_)
  refine XL.q (.bytesStr rfl rfl rfl rfl (Rd.old hrow fun _ _ _ => by simp [X.ids])) rfl ?_
  refine go (k := ?_)
  exact XE.ret2 () [] rfl rfl rfl trivial rfl rfl rfl
end Go.X
/- Contracts of package device: Write, settle, Flush, Crash, Fresh, Copy. -/
namespace Go.X
open Go Go.Proofs
theorem slc_spl0 {s : Slot} (h : s.ok) (r : List UInt8) (hr : r.length ≤ 64) : SplL (slc s) 0 (bcells r) (slc { s with firm := r ++ s.firm.drop r.length }) := by
  have h2 : SplL (bcells s.firm) 0 (bcells r) (bcells (r ++ s.firm.drop r.length)) := by
    refine ⟨by simp [h.1]; omega, ?_⟩
    simp only [List.take_zero, List.nil_append, Nat.zero_add, bcells_len]
    rw [bcells_app]
    congr 1
    simp [bcells, List.map_drop]
  exact h2.right _
theorem slc_spl64 {s : Slot} (h : s.ok) (r : List UInt8) (hr : r.length ≤ 64) : SplL (slc s) 64 (bcells r) (slc { s with read := r ++ s.read.drop r.length }) := by
  have h1 := (bcells_len s.firm).trans h.1
  have h2 : SplL (bcells s.read ++ [.bool s.fresh]) 0 (bcells r) (bcells (r ++ s.read.drop r.length) ++ [.bool s.fresh]) := by
    refine ⟨by simp [h.2]; omega, ?_⟩
    simp only [List.take_zero, List.nil_append, Nat.zero_add, bcells_len]
    rw [List.drop_append_of_le_length (by rw [bcells_len, h.2]; exact hr), ← List.append_assoc, bcells_app]
    congr 2
    simp [bcells, List.map_drop]
  have h3 := h2.left (bcells s.firm)
  rw [h1] at h3
  exact h3
theorem slc_spl128 {s : Slot} (h : s.ok) (f : Bool) : SplL (slc s) 128 [.bool f] (slc { s with fresh := f }) := by
  have h1 : (bcells s.firm ++ bcells s.read).length = 128 := by simp [h.1, h.2]
  have h2 : SplL [Value.bool s.fresh] 0 [.bool f] [.bool f] := ⟨by simp, by simp⟩
  have h3 := h2.left (bcells s.firm ++ bcells s.read)
  rw [h1, List.append_assoc, List.append_assoc] at h3
  exact h3
/-- what a written block reads -/
def padTo (s : List UInt8) : List UInt8 := s ++ zbytes (64 - s.length)
theorem padTo_len {s : List UInt8} (h : s.length ≤ 64) : (padTo s).length = 64 := by simp [padTo, zbytes]; omega
theorem zbytes_drop (n k : Nat) : (zbytes n).drop k = zbytes (n - k) := by unfold zbytes; rw [List.drop_replicate]
theorem dev_open {ds : List Slot} {cs : List Value} (hct : cs.take (dcs ds).length = dcs ds) : ∃ rest, cs = dcs ds ++ rest := ⟨cs.drop (dcs ds).length, by
  conv => lhs; rw [← List.take_append_drop (dcs ds).length cs, hct]⟩
theorem write_long (b : Nat) (lv : Value) (ds : List Slot) (k : Nat) (s : List UInt8) (w : World) (hk : Oks ds) (hlt : k < ds.length) (hs : 64 < s.length) (ho : Owns w (devG b lv ds)) : Fx Tryz.prog 51 [ptr b, iv k, str s] w (Pure w (iv 3)) := by
  obtain ⟨b1, off, c, cs, t, fz, rfl, hb, hb1, hcut⟩ := dev_row ho hk (by omega)
  refine Fx.of (L0 := []) Tryz.func51 rfl (by kernel_rfl) Tryz.ntmps51 rfl (Owns.nil w) ?_
  refine go (k := ?_)
  refine XL.q (.call rfl rfl fun _ w' hs => dat_in b b1 off _ c k _ _ w' hlt ((hs.kept.same b (Array.getElem?_eq_some_iff.1 hb).1 (by simp [X.ids])).trans hb)) rfl ?_
  refine go (k := ?_)
  exact XE.ret1 () [] rfl rfl trivial rfl rfl rfl
theorem write_ok (b : Nat) (lv : Value) (ds : List Slot) (k : Nat) (x : Slot) (s : List UInt8) (w : World) (hk : Oks ds) (hx : ds[k]? = some x) (hs : s.length ≤ 64) (ho : Owns w (devG b lv ds)) :
    Fx Tryz.prog 51 [ptr b, iv k, str s] w (Ret w (devG b lv ds) (fun _ : Unit => iv 0) (fun _ => devG b lv (ds.set k ⟨x.firm, padTo s, true⟩)) (fun _ => True)) := by
  have hlt := (List.getElem?_eq_some_iff.1 hx).1
  have hxk := hk x (List.mem_of_getElem? hx)
  refine Fx.of Tryz.func51 rfl (by kernel_rfl) Tryz.ntmps51 rfl ho ?_
  refine XC.openSl (m := ds.length) (.tail _ (.head _)) (by decide) (dcs_len hk).symm (by omega) (fun _ _ => .there .here) fun b1 cs cap hv hc hcl hct => ?_
  subst hv
  obtain ⟨rest, rfl⟩ := dev_open hct
  obtain ⟨x1, hx1⟩ : ∃ x1 : Slot, x1 = ⟨x.firm, zbytes 64, x.fresh⟩ := ⟨_, rfl⟩
  obtain ⟨x2, hx2⟩ : ∃ x2 : Slot, x2 = ⟨x.firm, padTo s, x.fresh⟩ := ⟨_, rfl⟩
  have ok1 : x1.ok := by rw [hx1]; exact ⟨hxk.1, by simp [zbytes]⟩
  have ok2 : x2.ok := by rw [hx2]; exact ⟨hxk.1, padTo_len hs⟩
  have sp1 : SplL (dcs ds ++ rest) (k * 129 + 64) (bcells (zbytes 64)) (dcs (ds.set k x1) ++ rest) := dcs_spl hk hx rest (by
    have h := slc_spl64 hxk (zbytes 64) (by simp [zbytes])
    rw [List.drop_of_length_le (by rw [hxk.2]; simp [zbytes]), List.append_nil] at h
    rw [hx1]; exact h)
  have at1 : (ds.set k x1)[k]? = some x1 := List.getElem?_set_self hlt
  have sp2 : SplL (dcs (ds.set k x1) ++ rest) (k * 129 + 64) (bcells s) (dcs (ds.set k x2) ++ rest) := by
    have h := dcs_spl (s' := x2) (hk.set ok1) at1 rest (j := 64) (news := bcells s) (by
      have h := slc_spl64 ok1 s hs
      rw [hx1] at h
      rw [hx1, hx2]
      simp only at h ⊢
      rw [zbytes_drop] at h
      exact h)
    rw [List.set_set] at h
    exact h
  have at2 : (ds.set k x2)[k]? = some x2 := List.getElem?_set_self hlt
  have sp3 : SplL (dcs (ds.set k x2) ++ rest) (k * 129 + 128) [.bool true] (dcs (ds.set k ⟨x.firm, padTo s, true⟩) ++ rest) := by
    have h := dcs_spl (s' := ⟨x.firm, padTo s, true⟩) (hk.set ok2) at2 rest (j := 128) (news := [.bool true]) (by
      have h := slc_spl128 ok2 true
      rw [hx2] at h ⊢
      exact h)
    rw [List.set_set] at h
    exact h
  refine go (k := ?_)
  refine XL.q (.call rfl rfl fun _ w' hs => dat_in b b1 0 _ cap k _ _ w' hlt (hs.own.ok _ (.head _))) rfl ?_
  rw [Nat.zero_add]
  refine go (k := ?_)
  refine XL.copy rfl rfl rfl rfl (.tail _ (.head _)) (fun _ _ _ => src_str rfl) (by omega) sp2 (.there .here) rfl ?_
  refine go (k := ?_)
  refine XE.shutSl (m := ds.length) (cap := cap) (k := 129) (xs := dcs (ds.set k ⟨x.firm, padTo s, true⟩)) (.tail _ (.head _)) ?_ hc ?_ ?_ (.there .here) ?_
  · rw [dcs_len (hk.set (s := ⟨x.firm, padTo s, true⟩) ⟨hxk.1, padTo_len hs⟩), List.length_set]
  · rw [List.length_append, dcs_len (hk.set (s := ⟨x.firm, padTo s, true⟩) ⟨hxk.1, padTo_len hs⟩), List.length_set]
    rw [List.length_append, dcs_len hk] at hcl
    exact hcl
  · rw [List.take_left]
  exact XE.ret1 () [0, 1] rfl rfl trivial rfl rfl rfl
/-! ### settle -/
/-- how many of the first slots are fresh -/
def nF (ds : List Slot) (k : Nat) : Nat := ((ds.take k).filter (·.fresh)).length
theorem nF_snoc {ds : List Slot} {k : Nat} {s : Slot} (h : ds[k]? = some s) : nF ds (k + 1) = nF ds k + if s.fresh = true then 1 else 0 := by
  unfold nF
  rw [take_snoc h, List.filter_append, List.length_append]
  cases hf : s.fresh <;> simp [hf]
def torn (F : Nat → Nat) (i : Nat) (s : Slot) : List UInt8 := s.read.take (min (F i) 64) ++ s.firm.drop (min (F i) 64)
theorem torn_len {F : Nat → Nat} {i : Nat} {s : Slot} (h : s.ok) : (torn F i s).length = 64 := by
  simp only [torn, List.length_append, List.length_take, List.length_drop, h.1, h.2]; omega
def settled (F : Nat → Nat) (ds : List Slot) : List Slot := ds.mapIdx fun i s => if s.fresh = true then ⟨torn F (nF ds i) s, torn F (nF ds i) s, false⟩ else s
theorem settled_len (F : Nat → Nat) (ds : List Slot) : (settled F ds).length = ds.length := by simp [settled]
theorem settled_at (F : Nat → Nat) (ds : List Slot) (i : Nat) : (settled F ds)[i]? = (ds[i]?).map fun s => if s.fresh = true then ⟨torn F (nF ds i) s, torn F (nF ds i) s, false⟩ else s := by
  simp [settled, List.getElem?_mapIdx]
theorem settled_ok {F : Nat → Nat} {ds : List Slot} (h : Oks ds) : Oks (settled F ds) := by
  intro s hs
  obtain ⟨i, hi⟩ := List.getElem?_of_mem hs
  rw [settled_at] at hi
  cases hd : ds[i]? with
  | none => rw [hd] at hi; cases hi
  | some x =>
    rw [hd] at hi
    have hx := h x (List.mem_of_getElem? hd)
    obtain rfl := (Option.some.inj hi).symm
    show Slot.ok (if x.fresh = true then _ else _)
    split
    · exact ⟨torn_len hx, torn_len hx⟩
    · exact hx
abbrev bI (l : List UInt8) : List Int := l.map fun c => ((c.toNat : Nat) : Int)
theorem bcells_bI (l : List UInt8) : bcells l = (bI l).map (Value.int .u8) := by simp [bcells, bI]
theorem bI_inj {a b : List UInt8} : bI a = bI b ↔ a = b := by
  constructor
  · intro h
    exact (List.map_inj_right (fun x y hxy => UInt8.toNat_inj.1 (by omega))).1 h
  · rintro rfl; rfl
/-- what stands half settled: the first k slots are -/
structure Half (F : Nat → Nat) (ds cur : List Slot) (k : Nat) : Prop where
  len : cur.length = ds.length
  lo : ∀ i, i < k → cur[i]? = (settled F ds)[i]?
  hi : ∀ i, k ≤ i → cur[i]? = ds[i]?
theorem Half.zero (F : Nat → Nat) (ds : List Slot) : Half F ds ds 0 := ⟨rfl, fun i h => by omega, fun _ _ => rfl⟩
theorem Half.ok {F : Nat → Nat} {ds cur : List Slot} {k : Nat} (h : Half F ds cur k) (ho : Oks ds) : Oks cur := by
  intro s hs
  obtain ⟨i, hi⟩ := List.getElem?_of_mem hs
  by_cases hik : i < k
  · rw [h.lo i hik] at hi; exact settled_ok ho s (List.mem_of_getElem? hi)
  · rw [h.hi i (by omega)] at hi; exact ho s (List.mem_of_getElem? hi)
theorem Half.skip {F : Nat → Nat} {ds cur : List Slot} {k : Nat} {s : Slot} (h : Half F ds cur k) (hs : ds[k]? = some s) (hf : s.fresh = false) : Half F ds cur (k + 1) :=
  ⟨h.len, fun i hi => by
    by_cases e : i = k
    · subst e; rw [h.hi i (Nat.le_refl _), settled_at, hs]; simp [hf]
    · exact h.lo i (by omega), fun i hi => h.hi i (by omega)⟩
theorem Half.set {F : Nat → Nat} {ds cur : List Slot} {k : Nat} {s : Slot} (h : Half F ds cur k) (hs : ds[k]? = some s) (hf : s.fresh = true) : Half F ds (cur.set k ⟨torn F (nF ds k) s, torn F (nF ds k) s, false⟩) (k + 1) :=
  ⟨by rw [List.length_set]; exact h.len, fun i hi => by
    by_cases e : i = k
    · subst e
      rw [List.getElem?_set_self (by rw [h.len]; exact (List.getElem?_eq_some_iff.1 hs).1), settled_at, hs]; simp [hf]
    · rw [List.getElem?_set_ne (fun x => e x.symm)]; exact h.lo i (by omega), fun i hi => by
    rw [List.getElem?_set_ne (by omega)]; exact h.hi i (by omega)⟩
theorem Half.done {F : Nat → Nat} {ds cur : List Slot} {k : Nat} (h : Half F ds cur k) (hk : ds.length ≤ k) : cur = settled F ds := by
  apply List.ext_getElem?
  intro i
  by_cases hi : i < k
  · exact h.lo i hi
  · rw [h.hi i (by omega), List.getElem?_eq_none (by omega), List.getElem?_eq_none (by rw [settled_len]; omega)]
theorem settle_nil (fv : Value) (w : World) : Fx Tryz.prog 98 [.pointer none, fv] w (Pure w (iv 0)) := by
  refine Fx.of (L0 := []) Tryz.func98 rfl (by kernel_rfl) Tryz.ntmps98 rfl (Owns.nil w) ?_
  refine go (k := ?_)
  exact XE.ret1 () [] rfl rfl trivial rfl rfl rfl
set_option maxHeartbeats 1000000 in
theorem settle_ok (b : Nat) (lv : Value) (ds : List Slot) (F : Nat → Nat) (g : FuncId) (first cap : List Value) (w : World) (hk : Oks ds) (hn : ds.length ≤ 100000) (hF : ∀ (i : Nat) w', i < ds.length → Kept (ids (devG b lv ds)) w w' → Fx Tryz.prog g (first ++ [iv i] ++ cap) w' (Pure w' (iv (F i))))
    (ho : Owns w (devG b lv ds)) :
    Fx Tryz.prog 98 [ptr b, .func (.func g) first.toArray cap.toArray] w (Ret w (devG b lv ds) (fun _ : Unit => iv (nF ds ds.length)) (fun _ => devG b lv (settled F ds)) (fun _ => True)) := by
  refine Fx.of Tryz.func98 rfl (by kernel_rfl) Tryz.ntmps98 rfl ho ?_
  obtain ⟨ao, c, rfl⟩ := dev_lv ho hk
  refine go (k := ?_)
  refine XC.loop (α := Nat × List Slot) (fun x => [(0, ptr b), (1, .func (.func g) first.toArray cap.toArray), (5, iv (nF ds x.1)), (14, iv ds.length), (15, iv x.1)]) (fun x => devG b (.slice ao ds.length c) x.2)
    (fun x => x.1 ≤ ds.length ∧ Half F ds x.2 x.1) (fun x => ds.length - x.1) (0, ds) [0, 1] ⟨Nat.zero_le _, Half.zero F ds⟩ ⟨rfl, rfl, rfl, rfl, rfl, trivial⟩ rfl rfl ?_
  rintro ⟨k, cur⟩ ⟨hkl, hh⟩
  simp only at hkl hh ⊢
  have hck := hh.ok hk
  by_cases hlt : k < ds.length
  · obtain ⟨s, hs⟩ : ∃ s, ds[k]? = some s := ⟨_, List.getElem?_eq_getElem hlt⟩
    have hsk := hk s (List.mem_of_getElem? hs)
    have hcs : cur[k]? = some s := by rw [hh.hi k (Nat.le_refl _)]; exact hs
    have hsn := nF_snoc hs
    have hnk : nF ds k ≤ k := by unfold nF; exact Nat.le_trans (List.length_filter_le _ _) (by rw [List.length_take]; omega)
    refine XC.openSl (m := cur.length) (.tail _ (.head _)) (by decide) (dcs_len hck).symm (by rw [hh.len]; omega) (fun _ _ => .there .here) fun b1 cs cp hv hc hcl hct => ?_
    rw [hh.len] at hv hc
    cases hv
    obtain ⟨rest, rfl⟩ := dev_open hct
    have at128 : (dcs cur ++ rest)[k * 129 + 128]? = some (.bool s.fresh) := by
      rw [dcs_at hck hcs rest (by omega)]
      unfold slc
      rw [List.getElem?_append_right (by rw [bcells_len, hsk.1]; omega), List.getElem?_append_right (by rw [bcells_len, bcells_len, hsk.1, hsk.2]; omega), bcells_len, bcells_len, hsk.1, hsk.2]
      rfl
    have cr : cut (dcs cur ++ rest) (k * 129 + 64) 64 = some ((bI s.read).map (Value.int .u8)) := by
      rw [dcs_cut hck hcs rest (by omega), ← bcells_bI]
      congr 1
      unfold slc
      rw [show 64 = (bcells s.firm).length by rw [bcells_len, hsk.1], List.drop_left, show (bcells s.firm).length = (bcells s.read).length by rw [bcells_len, bcells_len, hsk.1, hsk.2], List.take_left]
    have cf : ∀ x : Slot, x.ok → cut (dcs (cur.set k x) ++ rest) (k * 129 + 0) 64 = some ((bI x.firm).map (Value.int .u8)) := fun x hx => by
      rw [dcs_cut (hck.set hx) (List.getElem?_set_self (by rw [hh.len]; exact hlt)) rest (by omega), ← bcells_bI]
      congr 1
      unfold slc
      rw [List.drop_zero, show 64 = (bcells x.firm).length by rw [bcells_len, hx.1], List.take_left]
    have hself : cur.set k s = cur := by
      rw [← (List.getElem?_eq_some_iff.1 hcs).2, List.set_getElem_self]
    have cf0 := cf s hsk
    rw [hself] at cf0
    by_cases hfr : s.fresh = true
    · rw [if_pos hfr] at hsn
      rw [hfr] at at128
      obtain ⟨T, hT⟩ : ∃ T, T = torn F (nF ds k) s := ⟨_, rfl⟩
      have hTl : T.length = 64 := by rw [hT]; exact torn_len hsk
      obtain ⟨x1, hx1⟩ : ∃ x1 : Slot, x1 = ⟨T, s.read, s.fresh⟩ := ⟨_, rfl⟩
      obtain ⟨x2, hx2⟩ : ∃ x2 : Slot, x2 = ⟨T, T, s.fresh⟩ := ⟨_, rfl⟩
      have ok1 : x1.ok := by rw [hx1]; exact ⟨hTl, hsk.2⟩
      have ok2 : x2.ok := by rw [hx2]; exact ⟨hTl, hTl⟩
      have hlt' : k < cur.length := by rw [hh.len]; exact hlt
      have cf1 := cf x1 ok1
      have sp2 : SplL (dcs (cur.set k x1) ++ rest) (k * 129 + 64) ((bI T).map (Value.int .u8)) (dcs (cur.set k x2) ++ rest) := by
        have h := dcs_spl (s' := x2) (hck.set ok1) (List.getElem?_set_self hlt') rest (j := 64) (news := bcells T) (by
          have h := slc_spl64 ok1 T (by omega)
          rw [List.drop_of_length_le (by rw [ok1.2, hTl]; omega), List.append_nil] at h
          rw [hx1] at h ⊢; rw [hx2]; exact h)
        rw [List.set_set] at h
        rw [← bcells_bI]; exact h
      have sp3 : SplL (dcs (cur.set k x2) ++ rest) (k * 129 + 128) [.bool false] (dcs (cur.set k ⟨T, T, false⟩) ++ rest) := by
        have h := dcs_spl (s' := ⟨T, T, false⟩) (hck.set ok2) (List.getElem?_set_self hlt') rest (j := 128) (news := [.bool false]) (by
          have h := slc_spl128 ok2 false
          rw [hx2] at h ⊢; exact h)
        rw [List.set_set] at h
        exact h
      have hh' := hh.set hs hfr
      rw [← hT] at hh'
      have tlen : ((bI T).map (Value.int .u8)).length = 64 := by simp [hTl]
      have tone : ((bI T).map (Value.int .u8)).all Value.oneCell' = true := by rw [← bcells_bI]; exact bcells_one _
      refine go (k := ?_)
      refine XL.q (.neA rfl rfl rfl rfl rfl (by simp [hsk.2]) (by simp [hsk.1]) (by kernel_rfl)) rfl ?_
      by_cases heq : s.read = s.firm
      · have eT : T = s.firm := by rw [hT]; unfold torn; rw [heq, List.take_append_drop]
        have ex1 : cur.set k x1 = cur := by
          have : x1 = s := by rw [hx1, eT]
          rw [this, hself]
        rw [ex1] at sp2 cf1
        have cf1' : cut (dcs cur ++ rest) (k * 129 + 0) 64 = some ((bI T).map (Value.int .u8)) := by rw [cf1, hx1]
        clear cf0 cf1
        refine go (k := ?_)
        refine XC.condF rfl (by simp [heq]) ?_
        refine go (k := ?_)
        refine XL.stS rfl rfl rfl rfl tlen tone (.tail _ (.head _)) sp2 (.there .here) ?_
        refine go (k := ?_)
        refine XE.shutSl (m := ds.length) (cap := c) (k := 129) (xs := dcs (cur.set k ⟨T, T, false⟩)) (.tail _ (.head _)) ?_ hc ?_ ?_ (.there .here) ?_
        · rw [dcs_len (hck.set (s := ⟨T, T, false⟩) ⟨hTl, hTl⟩), List.length_set, hh.len]
        · rw [List.length_append, dcs_len (hck.set (s := ⟨T, T, false⟩) ⟨hTl, hTl⟩), List.length_set, hh.len]
          rw [List.length_append, dcs_len hck, hh.len] at hcl
          exact hcl
        · rw [List.take_left]
        exact XE.mid (k + 1, cur.set k ⟨T, T, false⟩) [0, 1] ⟨⟨by simp only; omega, hh'⟩, by simp only; omega⟩ ⟨rfl, rfl, gi rfl (by rw [hsn]; omega), rfl, rfl, trivial⟩ rfl rfl
      · refine go (k := ?_)
        refine XC.condT rfl (by simp [bI_inj, heq]) ?_
        refine go (k := ?_)
        refine XD.q (.call rfl rfl fun _ w' hs' => hF (nF ds k) w' (by omega) hs'.kept) rfl ?_
        refine go (k := ?_)
        obtain ⟨m, hm⟩ : ∃ m, m = min (F (nF ds k)) 64 := ⟨_, rfl⟩
        rw [show (if (64 : Int) < (F (nF ds k) : Nat) then 64 else ((F (nF ds k) : Nat) : Int)) = ((m : Nat) : Int) from by rw [hm]; split <;> omega]
        have hm64 : m ≤ 64 := by omega
        refine XD.q (.cutAh rfl rfl rfl rfl hm64) rfl ?_
        have hml : (s.read.take m).length = m := by rw [List.length_take, hsk.2]; omega
        have sp1 : SplL (dcs cur ++ rest) (k * 129 + 0) (bcells (s.read.take m)) (dcs (cur.set k x1) ++ rest) := dcs_spl hck hcs rest (by
          have h := slc_spl0 hsk (s.read.take m) (by omega)
          rw [hml] at h
          rw [hx1, hT]; unfold torn; rw [← hm]; exact h)
        have cm : cut (dcs cur ++ rest) (k * 129 + 64) (bcells (s.read.take m)).length = some (bcells (s.read.take m)) := by
          obtain ⟨g1, g2⟩ := cut_eq cr
          rw [bcells_len, hml, cut_some (by omega)]
          congr 1
          have := congrArg (List.take m) g2
          rw [List.take_take, Nat.min_eq_left hm64] at this
          rw [← this, ← bcells_bI]; simp [bcells, List.map_take]
        refine go (k := ?_)
        have cf1' : cut (dcs (cur.set k x1) ++ rest) (k * 129 + 0) 64 = some ((bI T).map (Value.int .u8)) := by rw [cf1, hx1]
        clear cf1 cf0
        refine XL.copy rfl rfl rfl rfl (.tail _ (.head _)) (fun w' ho' hk' => ((Rd.blk (.tail _ (.head _)) (by rw [bcells_len, hml, Nat.mul_one]) hm64 cm : Rd w _ _ _ 1 m _) w' ho' hk').src (Tab.hund _ _ rfl) (bcells_one _)) hm64 sp1 (.there .here) rfl ?_
        refine go (k := ?_)
        refine XL.stS rfl rfl rfl rfl tlen tone (.tail _ (.head _)) sp2 (.there .here) ?_
        refine go (k := ?_)
        refine XE.shutSl (m := ds.length) (cap := c) (k := 129) (xs := dcs (cur.set k ⟨T, T, false⟩)) (.tail _ (.head _)) ?_ hc ?_ ?_ (.there .here) ?_
        · rw [dcs_len (hck.set (s := ⟨T, T, false⟩) ⟨hTl, hTl⟩), List.length_set, hh.len]
        · rw [List.length_append, dcs_len (hck.set (s := ⟨T, T, false⟩) ⟨hTl, hTl⟩), List.length_set, hh.len]
          rw [List.length_append, dcs_len hck, hh.len] at hcl
          exact hcl
        · rw [List.take_left]
        exact XE.mid (k + 1, cur.set k ⟨T, T, false⟩) [0, 1] ⟨⟨by simp only; omega, hh'⟩, by simp only; omega⟩ ⟨rfl, rfl, gi rfl (by rw [hsn]; omega), rfl, rfl, trivial⟩ rfl rfl
    · have hfr' : s.fresh = false := by simpa using hfr
      rw [if_neg hfr, Nat.add_zero] at hsn
      rw [hfr'] at at128
      have hh' := hh.skip hs hfr'
      refine go (k := ?_)
      refine XE.shutSl (m := ds.length) (cap := c) (k := 129) (xs := dcs (cur)) (.tail _ (.head _)) ?_ hc ?_ ?_ (.there .here) ?_
      · rw [dcs_len (hck), hh.len]
      · rw [List.length_append, dcs_len (hck), hh.len]
        rw [List.length_append, dcs_len hck, hh.len] at hcl
        exact hcl
      · rw [List.take_left]
      exact XE.mid (k + 1, cur) [0, 1] ⟨⟨by simp only; omega, hh'⟩, by simp only; omega⟩ ⟨rfl, rfl, gi rfl (by rw [hsn]; rfl), rfl, rfl, trivial⟩ rfl rfl
  · obtain rfl : k = ds.length := by omega
    have hdone := hh.done (Nat.le_refl _)
    refine go (k := ?_)
    rw [hdone]
    exact XE.ret1 () [0, 1] rfl rfl trivial rfl rfl rfl
end Go.X
