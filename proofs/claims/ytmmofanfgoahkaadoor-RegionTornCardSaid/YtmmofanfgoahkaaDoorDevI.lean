/- Contracts of package line. -/
import Derived.Test.YtmmofanfgoahkaaDoorDevCc
import Derived.Test.YtmmofanfgoahkaaDoorRows2
namespace Go.X
open Go Go.Proofs
theorem iclone_ok (v : Value) (xs : List Int) (w : World) (hv : RowAt w v 1 xs.length (ivs xs)) (hl : xs.length ≤ 17592186044416) :
    Fx Tryd.prog 27 [v] w (Ret w [] (fun v : Value => v) (fun v => [.sl v 3 1 (ivs xs)]) (fun _ => True)) := by
  have hv' := hv
  obtain ⟨ao, c, rfl, h1, h2, h3⟩ := hv'
  refine Fx.of (L0 := []) Tryd.func27 rfl (by kernel_rfl) Tryd.ntmps27 rfl (Owns.nil w) ?_
  refine go (k := ?_)
  refine XL.q (.eqNilSl rfl rfl rfl) rfl ?_
  cases ao with
  | none =>
    obtain rfl : xs = [] := by
      rcases h3 with h3 | ⟨_, _, _, _, _, h4, _⟩
      · exact List.eq_nil_of_length_eq_zero h3
      · cases h4
    refine go (k := ?_)
    refine XE.addNil 3 1 ?_
    exact XE.ret1 (.slice none 0 0) [0] rfl rfl trivial rfl rfl rfl
  | some a =>
    refine go (k := ?_)
    refine XL.make (.bslice rfl rfl rfl rfl rfl rfl) rfl fun v H hb => ?_
    obtain ⟨b, rfl, rfl⟩ := hb
    refine go (k := ?_)
    have hrd : ∀ (L : Heap), Rd w (ids []) L (.slice (some a) xs.length c) 1 xs.length (ivs xs) := fun L => .old hv (fun _ _ _ => by simp [X.ids])
    have hone : (ivs xs).all Value.oneCell' = true := ivs_one xs
    by_cases h0 : xs.length = 0
    · have hnil : xs = [] := List.eq_nil_of_length_eq_zero h0
      subst hnil
      refine XL.appRoom (cs' := []) rfl rfl rfl rfl rfl (.head _) (hrd _) hone (Nat.le_refl _) ⟨Nat.le_refl _, rfl⟩ .here rfl ?_
      refine go (k := ?_)
      refine XE.shutSl (m := 0) (cap := 0) (k := 1) (xs := []) (.head _) rfl (Nat.le_refl _) (Nat.zero_le _) rfl .here ?_
      exact XE.ret1 _ [0] rfl rfl trivial rfl rfl rfl
    · refine XL.make (.grow rfl rfl rfl rfl rfl rfl (by decide) .empty (hrd _) hone (by omega) (by simp; omega) (by simp; omega)) rfl fun v H hb => ?_
      subst hb
      refine go (k := ?_)
      exact XE.ret1 v [0] rfl rfl trivial rfl rfl rfl
/-! ### the line -/
abbrev lnCs (b : Nat) (cut : Int) (vc : Value) (acts : Nat) (down : Bool) : List Value := [ptr b, iv cut, vc, iv acts, .bool down]
abbrev lnG (bl b : Nat) (lv vc : Value) (cut : Int) (ch : List Int) (acts : Nat) (down : Bool) (ds : List Slot) : Heap := [.blk bl (lnCs b cut vc acts down) 63, .sl vc 3 1 (ivs ch), devE b lv ds]
def hdc (down : Bool) : Int := if down = true then 8 else 0
theorem is_at (bl b : Nat) (cut : Int) (vc : Value) (acts : Nat) (down : Bool) (t : TypeId) (fz : Nat × Nat) (w : World) (hb : w.heap[bl]? = some (.cells (lnCs b cut vc acts down).toArray t fz)) : Fx Tryd.prog 71 [ptr bl] w (Pure w (.bool true)) := by
  refine Fx.of (L0 := []) Tryd.func71 rfl (by kernel_rfl) Tryd.ntmps71 rfl (Owns.nil w) ?_
  have hB : bl ∉ ids ([] : Heap) := by simp [X.ids]
  have h0 : (lnCs b cut vc acts down)[0 + 0]? = some (ptr b) := rfl
  refine go (k := ?_)
  exact XE.ret1 () [] rfl rfl trivial rfl rfl rfl
theorem holds_at (bl b : Nat) (cut : Int) (vc : Value) (acts : Nat) (down : Bool) (t : TypeId) (fz : Nat × Nat) (w : World) (hb : w.heap[bl]? = some (.cells (lnCs b cut vc acts down).toArray t fz)) : Fx Tryd.prog 47 [ptr bl] w (Pure w (iv (hdc down))) := by
  refine Fx.of (L0 := []) Tryd.func47 rfl (by kernel_rfl) Tryd.ntmps47 rfl (Owns.nil w) ?_
  have hB : bl ∉ ids ([] : Heap) := by simp [X.ids]
  refine go (k := ?_)
  refine XL.q (.call rfl rfl fun _ w' hs => is_at bl b cut vc acts down t fz w' ((hs.kept.same bl (Array.getElem?_eq_some_iff.1 hb).1 (by simp [X.ids])).trans hb)) rfl ?_
  have h4 : (lnCs b cut vc acts down)[0 + 4]? = some (.bool down) := rfl
  cases down with
  | true =>
    refine go (k := ?_)
    exact XE.ret1 () [] rfl rfl trivial rfl rfl rfl
  | false =>
    refine go (k := ?_)
    exact XE.ret1 () [] rfl rfl trivial rfl rfl rfl
theorem ldev_at (bl b : Nat) (cut : Int) (vc : Value) (acts : Nat) (down : Bool) (t : TypeId) (fz : Nat × Nat) (w : World) (hb : w.heap[bl]? = some (.cells (lnCs b cut vc acts down).toArray t fz)) : Fx Tryd.prog 52 [ptr bl] w (Pure w (ptr b)) := by
  refine Fx.of (L0 := []) Tryd.func52 rfl (by kernel_rfl) Tryd.ntmps52 rfl (Owns.nil w) ?_
  have hB : bl ∉ ids ([] : Heap) := by simp [X.ids]
  have h0 : (lnCs b cut vc acts down)[0 + 0]? = some (ptr b) := rfl
  refine go (k := ?_)
  refine XL.q (.call rfl rfl fun _ w' hs => is_at bl b cut vc acts down t fz w' ((hs.kept.same bl (Array.getElem?_eq_some_iff.1 hb).1 (by simp [X.ids])).trans hb)) rfl ?_
  refine go (k := ?_)
  exact XE.ret1 () [] rfl rfl trivial rfl rfl rfl
/-- whether the first choice is odd -/
def oddc (ch : List Int) : Bool := match ch with
  | [] => false
  | c :: _ => decide (c.tmod 2 ≠ 0)
theorem last_at (bl b : Nat) (cut : Int) (vc : Value) (ch : List Int) (acts : Nat) (down : Bool) (t : TypeId) (fz : Nat × Nat) (w : World) (hb : w.heap[bl]? = some (.cells (lnCs b cut vc acts down).toArray t fz)) (hv : RowAt w vc 1 ch.length (ivs ch)) (hl : ch.length ≤ 1000000)
    (hw : ∀ a ∈ ch, -9223372036854775808 ≤ a ∧ a ≤ 9223372036854775807) : Fx Tryd.prog 74 [ptr bl] w (Pure w (.bool (oddc ch))) := by
  refine Fx.of (L0 := []) Tryd.func74 rfl (by kernel_rfl) Tryd.ntmps74 rfl (Owns.nil w) ?_
  have hB : bl ∉ ids ([] : Heap) := by simp [X.ids]
  have hr : ∀ L : Heap, Rd w (ids []) L vc 1 ch.length (ivs ch) := fun L => .old hv (fun _ _ _ => by simp [X.ids])
  refine XC.rdv (hr _) fun ao m hva _ _ haa => ?_
  subst hva
  have h2 : (lnCs b cut (.slice ao ch.length m) acts down)[0 + 2]? = some (.slice ao ch.length m) := rfl
  cases ch with
  | nil =>
    refine go (k := ?_)
    exact XE.ret1 () [] rfl rfl trivial rfl rfl rfl
  | cons c ch =>
    obtain ⟨b1, o1, rfl⟩ : ∃ b off, ao = some ⟨b, off, none⟩ := haa.resolve_left (by simp)
    have hlen : 0 < (c :: ch).length := by simp
    refine go (k := ?_)
    refine XL.q (.ldRd (j := 0 * 1) rfl rfl rfl (hr _) (by omega) rfl) rfl ?_
    have hcw := hw c (.head _)
    refine go (k := ?_)
    exact XE.ret1 () [] rfl rfl trivial rfl rfl rfl
/-! ### Blow -/
theorem line_row {bl b : Nat} {lv vc : Value} {cut : Int} {ch : List Int} {acts : Nat} {down : Bool} {ds : List Slot} {w w' : World} (ho : Owns w (lnG bl b lv vc cut ch acts down ds)) (hk : Kept (ids (devG b lv ds)) w w') : RowAt w' vc 1 ch.length (ivs ch) := by
  have h1 : Owns w ([.blk bl (lnCs b cut vc acts down) 63, .sl vc 3 1 (ivs ch)] ++ [devE b lv ds]) := ho
  have h2 := h1.left.of_kept hk fun x hx h => h1.apart x hx (by rw [ids_grp1]; exact h)
  exact (h2.ok _ (.tail _ (.head _)) : SlOk w' vc _ 1 _).rowAt (by decide) (by simp)
def blown (ch : List Int) (down : Bool) (ds : List Slot) : List Slot := if down = true then ds else settled (Fc ch) ds
theorem blow_ok (bl b : Nat) (lv vc : Value) (cut : Int) (ch : List Int) (acts : Nat) (down : Bool) (ds : List Slot) (w : World) (hk : Oks ds) (hn : ds.length ≤ 100000) (hl : ch.length ≤ 1000000) (hw : ∀ a ∈ ch, -9223372036854775808 ≤ a ∧ a ≤ 9223372036854775807)
    (ho : Owns w (lnG bl b lv vc cut ch acts down ds)) :
    Fx Tryd.prog 18 [ptr bl] w (Ret w (lnG bl b lv vc cut ch acts down ds) (fun _ : Unit => .tuple #[]) (fun _ => lnG bl b lv vc cut ch acts true (blown ch down ds)) (fun _ => True)) := by
  refine Fx.of Tryd.func18 rfl (by kernel_rfl) Tryd.ntmps18 rfl ho ?_
  refine go (k := ?_)
  refine XL.q (.call rfl rfl fun _ w' hs => holds_at bl b cut vc acts down _ _ w' (hs.own.ok _ (.head _))) rfl ?_
  cases down with
  | true =>
    refine go (k := ?_)
    exact XE.end0 () [0, 1, 2] rfl trivial rfl rfl rfl
  | false =>
    have sp : SplL (lnCs b cut vc acts false) (0 + 4) [.bool true] (lnCs b cut vc acts true) := ⟨by simp, rfl⟩
    refine go (k := ?_)
    refine XL.call [2] [0, 1] rfl rfl rfl rfl rfl (fun _ w1 hs ho => Fx.grp (fun ho => crash_ok b lv ds vc ch w1 hk hn (fun w' hk' => line_row hs.own hk') hl hw ho) ho) fun _ _ => ?_
    refine go (k := ?_)
    exact XE.end0 () [1, 2, 0] rfl trivial rfl rfl rfl
/-! ### act -/
structure Ln where
  acts : Nat
  down : Bool
  ds : List Slot
abbrev lnX (bl b : Nat) (lv vc : Value) (cut : Int) (ch : List Int) (x : Ln) : Heap := lnG bl b lv vc cut ch x.acts x.down x.ds
def Ln.act (cut : Int) (ch : List Int) (x : Ln) (e : Int) (ds' : List Slot) : Int × Ln := if x.down = true then (8, x) else if (x.acts : Int) = cut then (8, ⟨x.acts + 1, true, settled (Fc ch) (if oddc ch = true then ds' else x.ds)⟩) else (e, ⟨x.acts + 1, false, ds'⟩)
set_option maxHeartbeats 1000000 in
theorem act_ok (bl b : Nat) (lv vc : Value) (cut : Int) (ch : List Int) (x : Ln) (Z1 Z2 Z3 : Ent) (e : Int) (ds' : List Slot) (g : FuncId) (cap : List Value) (w : World) (hk : Oks x.ds) (hn : x.ds.length ≤ 100000) (hk' : Oks ds') (hn' : ds'.length ≤ 100000) (ha : x.acts ≤ 1000000)
    (hl : ch.length ≤ 1000000) (hw : ∀ a ∈ ch, -9223372036854775808 ≤ a ∧ a ≤ 9223372036854775807)
    (hF : ∀ w', Owns w' (lnG bl b lv vc cut ch (x.acts + 1) false x.ds ++ [Z1, Z2, Z3]) → Fx Tryd.prog g cap w' (Ret w' (lnG bl b lv vc cut ch (x.acts + 1) false x.ds ++ [Z1, Z2, Z3]) (fun _ : Unit => iv e) (fun _ => lnG bl b lv vc cut ch (x.acts + 1) false ds' ++ [Z1, Z2, Z3]) (fun _ => True)))
    (ho : Owns w (lnX bl b lv vc cut ch x ++ [Z1, Z2, Z3])) :
    Fx Tryd.prog 49 [ptr bl, .func (.func g) #[] cap.toArray] w (Ret w (lnX bl b lv vc cut ch x ++ [Z1, Z2, Z3]) (fun _ : Unit => iv (x.act cut ch e ds').1) (fun _ => lnX bl b lv vc cut ch (x.act cut ch e ds').2 ++ [Z1, Z2, Z3]) (fun _ => True)) := by
  obtain ⟨acts, down, ds⟩ := x
  simp only at hk hn ha hF ho ⊢
  refine Fx.of Tryd.func49 rfl (by kernel_rfl) Tryd.ntmps49 rfl ho ?_
  refine go (k := ?_)
  refine XL.q (.call rfl rfl fun _ w' hs => holds_at bl b cut vc acts down _ _ w' (hs.own.ok _ (.head _))) rfl ?_
  cases down with
  | true =>
    refine go (k := ?_)
    exact XE.ret1 () [0, 1, 2, 3, 4, 5] rfl rfl trivial rfl rfl rfl
  | false =>
    have h3 : (lnCs b cut vc acts false)[0 + 3]? = some (iv acts) := rfl
    have h1 : (lnCs b cut vc (acts + 1) false)[0 + 1]? = some (iv cut) := rfl
    have sp : SplL (lnCs b cut vc acts false) (0 + 3) [iv ((acts : Int) + 1)] (lnCs b cut vc (acts + 1) false) := ⟨by simp, rfl⟩
    by_cases hc : (acts : Int) = cut
    · have hA : Ln.act cut ch ⟨acts, false, ds⟩ e ds' = (8, ⟨acts + 1, true, settled (Fc ch) (if oddc ch = true then ds' else ds)⟩) := by unfold Ln.act; simp [hc]
      rw [hA]
      refine go (k := ?_)
      refine XL.q (.call rfl rfl fun _ w' hs => last_at bl b cut vc ch (acts + 1) false _ _ w' (hs.own.ok _ (.head _)) (line_row (Owns.left hs.own) (Kept.refl _ _)) hl hw) rfl ?_
      cases hodd : oddc ch with
      | true =>
        refine go (k := ?_)
        refine XL.call [0, 1, 2, 3, 4, 5] [] rfl rfl rfl rfl rfl (fun _ w' _ ho => hF w' ho) fun _ _ => ?_
        refine XL.nm ?_
        refine go (k := ?_)
        refine XL.call [0, 1, 2] [3, 4, 5] rfl rfl rfl rfl rfl (fun _ w' _ ho => blow_ok bl b lv vc cut ch (acts + 1) false ds' w' hk' hn' hl hw ho) fun _ _ => ?_
        refine XL.nm ?_
        refine go (k := ?_)
        exact XE.ret1 () [0, 1, 2, 3, 4, 5] rfl rfl trivial rfl rfl rfl
      | false =>
        refine go (k := ?_)
        refine XL.call [0, 1, 2] [3, 4, 5] rfl rfl rfl rfl rfl (fun _ w' _ ho => blow_ok bl b lv vc cut ch (acts + 1) false ds w' hk hn hl hw ho) fun _ _ => ?_
        refine XL.nm ?_
        refine go (k := ?_)
        exact XE.ret1 () [0, 1, 2, 3, 4, 5] rfl rfl trivial rfl rfl rfl
    · have hA : Ln.act cut ch ⟨acts, false, ds⟩ e ds' = (e, ⟨acts + 1, false, ds'⟩) := by unfold Ln.act; simp [hc]
      rw [hA]
      refine go (k := ?_)
      refine XL.call [0, 1, 2, 3, 4, 5] [] rfl rfl rfl rfl rfl (fun _ w' _ ho => hF w' ho) fun _ _ => ?_
      refine XL.nm ?_
      refine go (k := ?_)
      exact XE.ret1 () [0, 1, 2, 3, 4, 5] rfl rfl trivial rfl rfl rfl
theorem lwriteF_ok (bl b b3 b4 b5 : Nat) (lv vc : Value) (cut : Int) (ch : List Int) (acts : Nat) (ds : List Slot) (k : Int) (s : List UInt8) (w : World) (hk : Oks ds) (hn : 0 < ds.length)
    (ho : Owns w (lnG bl b lv vc cut ch acts false ds ++ [.blk b3 [ptr bl] 24, .blk b4 [iv k] 3, .blk b5 [str s] 9])) :
    Fx Tryd.prog 50 [ptr b3, ptr b4, ptr b5] w (Ret w (lnG bl b lv vc cut ch acts false ds ++ [.blk b3 [ptr bl] 24, .blk b4 [iv k] 3, .blk b5 [str s] 9]) (fun _ : Unit => iv (dwr ds k s).1)
      (fun _ => lnG bl b lv vc cut ch acts false (dwr ds k s).2 ++ [.blk b3 [ptr bl] 24, .blk b4 [iv k] 3, .blk b5 [str s] 9]) (fun _ => True)) := by
  refine Fx.of Tryd.func50 rfl (by kernel_rfl) Tryd.ntmps50 rfl ho ?_
  have h0 : (lnCs b cut vc acts false)[0 + 0]? = some (ptr b) := rfl
  refine go (k := ?_)
  refine XL.call [2] [0, 1, 3, 4, 5] rfl rfl rfl rfl rfl (fun _ w _ ho => write_any b lv ds k s w hk hn ho) fun _ _ => ?_
  refine XL.nm ?_
  refine go (k := ?_)
  exact XE.ret1 () [1, 2, 0, 3, 4, 5] rfl rfl trivial rfl rfl rfl
theorem lflushF_ok (bl b b3 : Nat) (Z2 Z3 : Ent) (lv vc : Value) (cut : Int) (ch : List Int) (acts : Nat) (ds : List Slot) (w : World) (hk : Oks ds) (hn : ds.length ≤ 100000)
    (ho : Owns w (lnG bl b lv vc cut ch acts false ds ++ [.blk b3 [ptr bl] 24, Z2, Z3])) :
    Fx Tryd.prog 53 [ptr b3] w (Ret w (lnG bl b lv vc cut ch acts false ds ++ [.blk b3 [ptr bl] 24, Z2, Z3]) (fun _ : Unit => iv 0)
      (fun _ => lnG bl b lv vc cut ch acts false (settled F64 ds) ++ [.blk b3 [ptr bl] 24, Z2, Z3]) (fun _ => True)) := by
  refine Fx.of Tryd.func53 rfl (by kernel_rfl) Tryd.ntmps53 rfl ho ?_
  have h0 : (lnCs b cut vc acts false)[0 + 0]? = some (ptr b) := rfl
  refine go (k := ?_)
  refine XL.call [2] [0, 1, 3, 4, 5] rfl rfl rfl rfl rfl (fun _ w _ ho => Fx.grp (fun ho => flush_ok b lv ds w hk hn ho) ho) fun _ _ => ?_
  refine XL.nm ?_
  refine go (k := ?_)
  exact XE.ret1 () [1, 2, 0, 3, 4, 5] rfl rfl trivial rfl rfl rfl
def Ln.write (cut : Int) (ch : List Int) (x : Ln) (k : Int) (s : List UInt8) : Int × Ln := x.act cut ch (dwr x.ds k s).1 (dwr x.ds k s).2
def Ln.flush (cut : Int) (ch : List Int) (x : Ln) : Int × Ln := x.act cut ch 0 (settled F64 x.ds)
theorem lwrite_ok (bl b : Nat) (lv vc : Value) (cut : Int) (ch : List Int) (x : Ln) (k : Int) (s : List UInt8) (w : World) (hk : Oks x.ds) (hn0 : 0 < x.ds.length) (hn : x.ds.length ≤ 100000) (ha : x.acts ≤ 1000000)
    (hl : ch.length ≤ 1000000) (hw : ∀ a ∈ ch, -9223372036854775808 ≤ a ∧ a ≤ 9223372036854775807) (ho : Owns w (lnX bl b lv vc cut ch x)) :
    Fx Tryd.prog 23 [ptr bl, iv k, str s] w (Ret w (lnX bl b lv vc cut ch x) (fun _ : Unit => iv (x.write cut ch k s).1) (fun _ => lnX bl b lv vc cut ch (x.write cut ch k s).2) (fun _ => True)) := by
  refine Fx.of Tryd.func23 rfl (by kernel_rfl) Tryd.ntmps23 rfl ho ?_
  refine go (k := ?_)
  refine XL.box rfl rfl rfl fun b3 => ?_
  refine go (k := ?_)
  refine XL.box rfl rfl rfl fun b4 => ?_
  refine go (k := ?_)
  refine XL.box rfl rfl rfl fun b5 => ?_
  refine go (k := ?_)
  refine XL.call [3, 4, 5, 2, 1, 0] [] rfl rfl rfl rfl rfl (fun _ w _ ho => act_ok bl b lv vc cut ch x (.blk b3 [ptr bl] 24) (.blk b4 [iv k] 3) (.blk b5 [str s] 9) (dwr x.ds k s).1 (dwr x.ds k s).2 50 [ptr b3, ptr b4, ptr b5] w hk hn (dwr_ok hk k s) (by rw [dwr_len]; exact hn) ha hl hw
    (fun w' ho' => lwriteF_ok bl b b3 b4 b5 lv vc cut ch (x.acts + 1) x.ds k s w' hk hn0 ho') ho) fun _ _ => ?_
  refine XL.nm ?_
  refine go (k := ?_)
  exact XE.ret1 () [0, 1, 2] rfl rfl trivial rfl rfl rfl
theorem lflush_ok (bl b : Nat) (lv vc : Value) (cut : Int) (ch : List Int) (x : Ln) (w : World) (hk : Oks x.ds) (hn : x.ds.length ≤ 100000) (ha : x.acts ≤ 1000000)
    (hl : ch.length ≤ 1000000) (hw : ∀ a ∈ ch, -9223372036854775808 ≤ a ∧ a ≤ 9223372036854775807) (ho : Owns w (lnX bl b lv vc cut ch x)) :
    Fx Tryd.prog 29 [ptr bl] w (Ret w (lnX bl b lv vc cut ch x) (fun _ : Unit => iv (x.flush cut ch).1) (fun _ => lnX bl b lv vc cut ch (x.flush cut ch).2) (fun _ => True)) := by
  refine Fx.of Tryd.func29 rfl (by kernel_rfl) Tryd.ntmps29 rfl ho ?_
  refine XC.addG0 ?_
  refine XC.addG0 ?_
  refine go (k := ?_)
  refine XL.box rfl rfl rfl fun b3 => ?_
  refine go (k := ?_)
  refine XL.call [3, 4, 5, 0, 1, 2] [] rfl rfl rfl rfl rfl (fun _ w _ ho => act_ok bl b lv vc cut ch x (.blk b3 [ptr bl] 24) (grp []) (grp []) 0 (settled F64 x.ds) 53 [ptr b3] w hk hn (settled_ok hk) (by rw [settled_len]; exact hn) ha hl hw
    (fun w' ho' => lflushF_ok bl b b3 (grp []) (grp []) lv vc cut ch (x.acts + 1) x.ds w' hk hn ho') ho) fun _ _ => ?_
  refine XL.nm ?_
  refine go (k := ?_)
  exact XE.ret1 () [0, 1, 2] rfl rfl trivial rfl rfl rfl
/-! ### Read, New -/
def drd (ds : List Slot) (k : Int) : List UInt8 × Int := if ds.length = 0 then ([], 1) else if k < 0 ∨ ds.length ≤ k then ([], 2) else ((ds.getD k.toNat slot0).read, 0)
theorem read_any (b : Nat) (lv : Value) (ds : List Slot) (k : Int) (w : World) (hk : Oks ds) (hn : 0 < ds.length) (ho : Owns w (devG b lv ds)) : Fx Tryd.prog 15 [ptr b, iv k] w (Pure w (.tuple #[str (drd ds k).1, iv (drd ds k).2])) := by
  by_cases h1 : k < 0 ∨ ds.length ≤ k
  · have e : drd ds k = ([], 2) := by unfold drd; rw [if_neg (by omega), if_pos h1]
    rw [e]
    refine read_err (ptr b) k 2 w (by decide) fun w' hk' => dat_err b lv ds k 2 w' hk ?_ (ho.of_kept hk' fun _ _ h => by cases h)
    unfold errAt; rw [if_neg (by omega), if_pos h1]
  · obtain ⟨j, rfl⟩ : ∃ j : Nat, k = j := ⟨k.toNat, by omega⟩
    obtain ⟨x, hx⟩ : ∃ x, ds[j]? = some x := ⟨_, List.getElem?_eq_getElem (by omega)⟩
    have e : drd ds j = (x.read, 0) := by
      unfold drd; rw [if_neg (by omega), if_neg h1, Int.toNat_natCast, List.getD_eq_getElem?_getD, hx]; rfl
    rw [e]
    exact read_ok b lv ds j x w hk hx ho
def Ln.read (x : Ln) (k : Int) : List UInt8 × Int := if x.down = true then ([], 8) else drd x.ds k
theorem lread_ok (bl b : Nat) (lv vc : Value) (cut : Int) (ch : List Int) (x : Ln) (k : Int) (w : World) (hk : Oks x.ds) (hn0 : 0 < x.ds.length) (ho : Owns w (lnX bl b lv vc cut ch x)) :
    Fx Tryd.prog 44 [ptr bl, iv k] w (Pure w (.tuple #[str (x.read k).1, iv (x.read k).2])) := by
  obtain ⟨acts, down, ds⟩ := x
  simp only at hk hn0 ho ⊢
  have hown : ∀ w', Kept [] w w' → Owns w' (lnG bl b lv vc cut ch acts down ds) := fun w' k => ho.of_kept k (fun _ _ h => by cases h)
  have hb : w.heap[bl]? = some (.cells (lnCs b cut vc acts down).toArray _ (0, 0)) := ho.ok _ (.head _)
  have hB : bl ∉ ids ([] : Heap) := by simp [X.ids]
  have h0 : (lnCs b cut vc acts down)[0 + 0]? = some (ptr b) := rfl
  refine Fx.of (L0 := []) Tryd.func44 rfl (by kernel_rfl) Tryd.ntmps44 rfl (Owns.nil w) ?_
  refine go (k := ?_)
  refine XL.q (.call rfl rfl fun _ w' hs => holds_at bl b cut vc acts down _ _ w' ((hown w' hs.kept).ok _ (.head _))) rfl ?_
  cases down with
  | true =>
    refine go (k := ?_)
    exact XE.ret2 () [] rfl rfl rfl trivial rfl rfl rfl
  | false =>
    refine go (k := ?_)
    refine XL.q (.call rfl rfl fun _ w' hs => read_any b lv ds k w' hk hn0 ((hown w' hs.kept).grp (.tail _ (.tail _ (.head _))))) rfl ?_
    refine go (k := ?_)
    exact XE.ret2 () [] rfl rfl rfl trivial rfl rfl rfl
theorem lnew_ok (b : Nat) (lv : Value) (ds : List Slot) (cut : Int) (v : Value) (ch : List Int) (w : World) (hk : Oks ds) (hn : 0 < ds.length) (hl : ch.length ≤ 1000000) (hv : ∀ w', Kept (ids (devG b lv ds)) w w' → RowAt w' v 1 ch.length (ivs ch)) (ho : Owns w [devE b lv ds]) :
    Fx Tryd.prog 8 [ptr b, iv cut, v] w (Ret w [devE b lv ds] (fun x : Nat × Value => ptr x.1) (fun x => lnX x.1 b lv x.2 cut ch ⟨0, false, ds⟩) (fun _ => True)) := by
  refine Fx.of Tryd.func8 rfl (by kernel_rfl) Tryd.ntmps8 rfl ho ?_
  refine go (k := ?_)
  refine XL.q (.call rfl rfl fun _ w' hs => blocks_ok b lv ds w' hk (hs.own.grp (.head _))) rfl ?_
  refine go (k := ?_)
  refine XL.make (.call rfl rfl fun _ w' hs => iclone_ok v ch w' (hv w' (hs.kept.mono fun x hx => by rw [← ids_grp1]; exact hx)) (by omega)) rfl fun v' H hv => ?_
  obtain ⟨v', _, rfl, rfl⟩ := hv
  refine XL.nm ?_
  refine XL.slv (.head _) fun ao q m hv hq _ => ?_
  subst hv
  refine go (k := ?_)
  refine XL.box rfl rfl rfl fun bl => ?_
  refine go (k := ?_)
  exact XE.ret1 (bl, .slice ao q m) [0, 1, 2] rfl rfl trivial rfl rfl rfl
end Go.X
