/- Contracts of package device: at, New, Write, Read, Firm, Blocks. -/
import Derived.Test.YtmmofanfgoahkaaDoorDevP
namespace Go.X
open Go Go.Proofs
abbrev devB (b : Nat) (lv : Value) : Ent := .blk b [lv] 60
abbrev devS (lv : Value) (ds : List Slot) : Ent := .sl lv 89 129 (dcs ds)
abbrev devG (b : Nat) (lv : Value) (ds : List Slot) : Heap := [devB b lv, devS lv ds]
abbrev devE (b : Nat) (lv : Value) (ds : List Slot) : Ent := grp (devG b lv ds)
theorem dat_nil (k : Int) (w : World) : Fx Tryd.prog 39 [.pointer none, iv k] w (Pure w (.tuple #[.pointer none, iv 1])) := by
  refine Fx.of (L0 := []) Tryd.func39 rfl (by kernel_rfl) Tryd.ntmps39 rfl (Owns.nil w) ?_
  refine go (k := ?_)
  exact XE.ret2 () [] rfl rfl rfl trivial rfl rfl rfl
theorem dat_zero (b : Nat) (ao : Option Addr) (c : Nat) (k : Int) (t : TypeId) (fz : Nat × Nat) (w : World) (hb : w.heap[b]? = some (.cells [.slice ao 0 c].toArray t fz)) : Fx Tryd.prog 39 [ptr b, iv k] w (Pure w (.tuple #[.pointer none, iv 1])) := by
  refine Fx.of (L0 := []) Tryd.func39 rfl (by kernel_rfl) Tryd.ntmps39 rfl (Owns.nil w) ?_
  have hB : b ∉ ids ([] : Heap) := by simp [X.ids]
  have h0 : [Value.slice ao 0 c][0 + 0]? = some (Value.slice ao 0 c) := rfl
  refine go (k := ?_)
  exact XE.ret2 () [] rfl rfl rfl trivial rfl rfl rfl
theorem dat_out (b : Nat) (ao : Option Addr) (m c : Nat) (k : Int) (t : TypeId) (fz : Nat × Nat) (w : World) (hm : 0 < m) (hk : k < 0 ∨ m ≤ k) (hb : w.heap[b]? = some (.cells [.slice ao m c].toArray t fz)) : Fx Tryd.prog 39 [ptr b, iv k] w (Pure w (.tuple #[.pointer none, iv 2])) := by
  refine Fx.of (L0 := []) Tryd.func39 rfl (by kernel_rfl) Tryd.ntmps39 rfl (Owns.nil w) ?_
  have hB : b ∉ ids ([] : Heap) := by simp [X.ids]
  have h0 : [Value.slice ao m c][0 + 0]? = some (Value.slice ao m c) := rfl
  by_cases h1 : k < 0
  · refine go (k := ?_)
    exact XE.ret2 () [] rfl rfl rfl trivial rfl rfl rfl
  · have h2 : (m : Int) ≤ k := by omega
    refine go (k := ?_)
    exact XE.ret2 () [] rfl rfl rfl trivial rfl rfl rfl
theorem dat_in (b b1 off m c k : Nat) (t : TypeId) (fz : Nat × Nat) (w : World) (hk : k < m) (hb : w.heap[b]? = some (.cells [.slice (some ⟨b1, off, none⟩) m c].toArray t fz)) :
    Fx Tryd.prog 39 [ptr b, iv k] w (Pure w (.tuple #[.pointer (some ⟨b1, off + k * 129, none⟩), iv 0])) := by
  refine Fx.of (L0 := []) Tryd.func39 rfl (by kernel_rfl) Tryd.ntmps39 rfl (Owns.nil w) ?_
  have hB : b ∉ ids ([] : Heap) := by simp [X.ids]
  have h0 : [Value.slice (some ⟨b1, off, none⟩) m c][0 + 0]? = some (Value.slice (some ⟨b1, off, none⟩) m c) := rfl
  refine go (k := ?_)
  exact XE.ret2 () [] rfl rfl rfl trivial rfl rfl rfl
/-! ### New -/
def zbytes (n : Nat) : List UInt8 := List.replicate n 0
def slot0 : Slot := ⟨zbytes 64, zbytes 64, false⟩
theorem slot0_ok : slot0.ok := ⟨by simp [slot0, zbytes], by simp [slot0, zbytes]⟩
theorem zeros_slot (n : Nat) : zerosL (slc slot0) n = dcs (List.replicate n slot0) := by
  induction n with
  | zero => rfl
  | succ n ih => rw [zerosL, ih, List.replicate_succ, dcs_cons]
theorem dnew_none (n : Int) (w : World) (h : n < 256 ∨ 2048 < n) : Fx Tryd.prog 7 [iv n] w (Pure w (.pointer none)) := by
  refine Fx.of (L0 := []) Tryd.func7 rfl (by kernel_rfl) Tryd.ntmps7 rfl (Owns.nil w) ?_
  by_cases h1 : n < 256
  · refine go (k := ?_)
    exact XE.ret1 () [] rfl rfl trivial rfl rfl rfl
  · have h2 : 2048 < n := by omega
    refine go (k := ?_)
    exact XE.ret1 () [] rfl rfl trivial rfl rfl rfl
theorem dnew_ok (n : Nat) (w : World) (h1 : 256 ≤ n) (h2 : n ≤ 2048) : Fx Tryd.prog 7 [iv n] w (Ret w [] (fun x : Nat × Value => ptr x.1) (fun x => [devE x.1 x.2 (List.replicate n slot0)]) (fun _ => True)) := by
  refine Fx.of (L0 := []) Tryd.func7 rfl (by kernel_rfl) Tryd.ntmps7 rfl (Owns.nil w) ?_
  refine go (k := ?_)
  refine XL.make (.mslice rfl rfl rfl rfl rfl (Nat.le_refl _) (by omega) (by omega)) rfl fun v H hv => ?_
  obtain ⟨b1, rfl, rfl⟩ := hv
  refine go (k := ?_)
  refine XL.box rfl rfl rfl fun b => ?_
  refine go (k := ?_)
  have hl : (dcs (List.replicate n slot0)).length = n * 129 := by rw [dcs_len (fun s hs => by rw [(List.mem_replicate.1 hs).2]; exact slot0_ok), List.length_replicate]
  refine XE.shutSl (m := n) (cap := n) (k := 129) (xs := dcs (List.replicate n slot0)) (.tail _ (.head _)) hl.symm (Nat.le_refl _) (by rw [zerosL_length]; exact Nat.le_refl _) ?_ (.there .here) ?_
  · show (zerosL (slc slot0) n).take _ = _
    rw [zeros_slot, List.take_length]
  refine XE.all ?_
  exact XE.ret1 (b, .slice (some ⟨b1, 0, none⟩) n n) [0] rfl rfl trivial rfl rfl rfl
/-! ### reading -/
theorem dev_row {b : Nat} {lv : Value} {ds : List Slot} {w : World} (ho : Owns w (devG b lv ds)) (hk : Oks ds) (hn : 0 < ds.length) :
    ∃ b1 off c cs t fz, lv = .slice (some ⟨b1, off, none⟩) ds.length c ∧ w.heap[b]? = some (.cells [lv].toArray 60 (0, 0)) ∧ w.heap[b1]? = some (.cells cs t fz) ∧ cut cs.toList off (dcs ds).length = some (dcs ds) := by
  have hb : w.heap[b]? = some (.cells [lv].toArray 60 (0, 0)) := ho.ok _ (.head _)
  obtain ⟨ao, c, rfl, h1, h2, h3⟩ := (ho.ok _ (.tail _ (.head _)) : SlOk w lv 89 129 _).rowAt (m := ds.length) (by decide) (dcs_len hk).symm
  rcases h3 with h3 | ⟨b1, off, cs, t, fz, rfl, h5, h6⟩
  · omega
  · exact ⟨b1, off, c, cs.toArray, t, fz, rfl, hb, h5, by simpa using h6⟩
theorem blocks_nil (w : World) : Fx Tryd.prog 26 [.pointer none] w (Pure w (iv 0)) := by
  refine Fx.of (L0 := []) Tryd.func26 rfl (by kernel_rfl) Tryd.ntmps26 rfl (Owns.nil w) ?_
  refine go (k := ?_)
  exact XE.ret1 () [] rfl rfl trivial rfl rfl rfl
theorem blocks_at (b : Nat) (ao : Option Addr) (m c : Nat) (t : TypeId) (fz : Nat × Nat) (w : World) (hb : w.heap[b]? = some (.cells [.slice ao m c].toArray t fz)) : Fx Tryd.prog 26 [ptr b] w (Pure w (iv m)) := by
  refine Fx.of (L0 := []) Tryd.func26 rfl (by kernel_rfl) Tryd.ntmps26 rfl (Owns.nil w) ?_
  have hB : b ∉ ids ([] : Heap) := by simp [X.ids]
  have h0 : [Value.slice ao m c][0 + 0]? = some (Value.slice ao m c) := rfl
  refine go (k := ?_)
  exact XE.ret1 () [] rfl rfl trivial rfl rfl rfl
theorem dev_lv {b : Nat} {lv : Value} {ds : List Slot} {w : World} (ho : Owns w (devG b lv ds)) (hk : Oks ds) : ∃ ao c, lv = .slice ao ds.length c := by
  obtain ⟨ao, n, c, rfl, h1, _, _⟩ := (ho.ok _ (.tail _ (.head _)) : SlOk w lv 89 129 _)
  rw [dcs_len hk] at h1
  obtain rfl : n = ds.length := by omega
  exact ⟨ao, c, rfl⟩
theorem blocks_ok (b : Nat) (lv : Value) (ds : List Slot) (w : World) (hk : Oks ds) (ho : Owns w (devG b lv ds)) : Fx Tryd.prog 26 [ptr b] w (Pure w (iv ds.length)) := by
  obtain ⟨ao, c, rfl⟩ := dev_lv ho hk
  exact blocks_at b ao _ c _ _ w (ho.ok _ (.head _))
/-- what at tells of a block that there is not -/
def errAt (n : Nat) (k : Int) : Option Int := if n = 0 then some 1 else if k < 0 ∨ n ≤ k then some 2 else none
theorem dat_err (b : Nat) (lv : Value) (ds : List Slot) (k e : Int) (w : World) (hk : Oks ds) (he : errAt ds.length k = some e) (ho : Owns w (devG b lv ds)) : Fx Tryd.prog 39 [ptr b, iv k] w (Pure w (.tuple #[.pointer none, iv e])) := by
  obtain ⟨ao, c, rfl⟩ := dev_lv ho hk
  have hb : w.heap[b]? = _ := ho.ok _ (.head _)
  unfold errAt at he
  split at he
  · rename_i h0
    cases he
    rw [h0] at hb
    exact dat_zero b ao c k _ _ w hb
  · split at he
    · rename_i h1
      cases he
      exact dat_out b ao _ c k _ _ w (by omega) h1 hb
    · cases he
theorem read_err (x : Value) (k e : Int) (w : World) (he : e ≠ 0) (h : ∀ w', Kept [] w w' → Fx Tryd.prog 39 [x, iv k] w' (Pure w' (.tuple #[.pointer none, iv e]))) : Fx Tryd.prog 15 [x, iv k] w (Pure w (.tuple #[str [], iv e])) := by
  refine Fx.of (L0 := []) Tryd.func15 rfl (by kernel_rfl) Tryd.ntmps15 rfl (Owns.nil w) ?_
  refine go (k := ?_)
  refine XL.q (.call rfl rfl fun _ w' hs => h w' hs.kept) rfl ?_
  refine go (k := ?_)
  exact XE.ret2 () [] rfl rfl rfl trivial rfl rfl rfl
theorem write_err (x : Value) (k e : Int) (s : List UInt8) (w : World) (he : e ≠ 0) (h : ∀ w', Kept [] w w' → Fx Tryd.prog 39 [x, iv k] w' (Pure w' (.tuple #[.pointer none, iv e]))) : Fx Tryd.prog 22 [x, iv k, str s] w (Pure w (iv e)) := by
  refine Fx.of (L0 := []) Tryd.func22 rfl (by kernel_rfl) Tryd.ntmps22 rfl (Owns.nil w) ?_
  refine go (k := ?_)
  refine XL.q (.call rfl rfl fun _ w' hs => h w' hs.kept) rfl ?_
  refine go (k := ?_)
  exact XE.ret1 () [] rfl rfl trivial rfl rfl rfl
theorem read_ok (b : Nat) (lv : Value) (ds : List Slot) (k : Nat) (s : Slot) (w : World) (hk : Oks ds) (hs : ds[k]? = some s) (ho : Owns w (devG b lv ds)) : Fx Tryd.prog 15 [ptr b, iv k] w (Pure w (.tuple #[str s.read, iv 0])) := by
  have hlt := (List.getElem?_eq_some_iff.1 hs).1
  have hsk := hk s (List.mem_of_getElem? hs)
  obtain ⟨b1, off, c, cs, t, fz, rfl, hb, hb1, hcut⟩ := dev_row ho hk (by omega)
  have hB : b1 ∉ ids ([] : Heap) := by simp [X.ids]
  have hrow : RowAt w (.slice (some ⟨b1, off + k * 129 + 64, none⟩) 64 64) 1 64 (bcells s.read) := ⟨_, _, rfl, by rw [bcells_len, hsk.2], Nat.le_refl _, .inr ⟨b1, _, cs.toList, t, fz, rfl, by simpa using hb1, by
    obtain ⟨g1, g2⟩ := cut_eq hcut
    have h2 := dcs_cut hk hs [] (j := 64) (m := 64) (by omega)
    rw [List.append_nil] at h2
    obtain ⟨g3, g4⟩ := cut_eq h2
    rw [bcells_len, hsk.2, cut_some (by omega)]
    have e1 : ((slc s).drop 64).take 64 = bcells s.read := by
      unfold slc
      rw [show 64 = (bcells s.firm).length by rw [bcells_len, hsk.1], List.drop_left, show (bcells s.firm).length = (bcells s.read).length by rw [bcells_len, bcells_len, hsk.1, hsk.2], List.take_left]
    rw [e1] at g4
    rw [g4]
    congr 1
    have g5 : (dcs ds).drop (k * 129 + 64) = ((cs.toList.drop off).take (dcs ds).length).drop (k * 129 + 64) := by rw [← g2]
    rw [g5, List.drop_take, List.take_take, List.drop_drop, Nat.min_eq_left (by omega), show off + (k * 129 + 64) = off + k * 129 + 64 by omega]⟩⟩
  refine Fx.of (L0 := []) Tryd.func15 rfl (by kernel_rfl) Tryd.ntmps15 rfl (Owns.nil w) ?_
  refine go (k := ?_)
  refine XL.q (.call rfl rfl fun _ w' hs => dat_in b b1 off _ c k _ _ w' hlt ((hs.kept.same b (Array.getElem?_eq_some_iff.1 hb).1 (by simp [X.ids])).trans hb)) rfl ?_
  refine go (k := ?_)
  refine XL.q (.bytesStr rfl rfl rfl rfl (Rd.old hrow fun _ _ _ => by simp [X.ids])) rfl ?_
  refine go (k := ?_)
  exact XE.ret2 () [] rfl rfl rfl trivial rfl rfl rfl
end Go.X
