/- Contracts of package line. -/
import Derived.Test.YtmmofanfgoahkaaGreatDoorZ13
import Derived.Test.YtmmofanfgoahkaaGreatDoorZ15
namespace Go.X
open Go Go.Proofs
theorem iclone_ok (v : Value) (xs : List Int) (w : World) (hv : RowAt w v 1 xs.length (ivs xs)) (hl : xs.length ≤ 17592186044416) :
    Fx Tryz.prog 41 [v] w (Ret w [] (fun v : Value => v) (fun v => [.sl v 3 1 (ivs xs)]) (fun _ => True)) := by
  have hv' := hv
  obtain ⟨ao, c, rfl, h1, h2, h3⟩ := hv'
  refine Fx.of (L0 := []) Tryz.func41 rfl (by kernel_rfl) Tryz.ntmps41 rfl (Owns.nil w) ?_
  refine go (k := ?_)
  refine XL.q (.eqNilSl rfl rfl rfl) rfl ?_
  cases ao with
  | none =>
    obtain rfl : xs = [] := by
      rcases h3 with h3 | ⟨_, _, _, _, _, h4, _⟩
      · exact List.eq_nil_of_length_eq_zero h3
      · cases h4
    refine go (k := ?_)
    refine XE.addNil 3 1 ?_
    exact XE.ret1 (.slice none 0 0) [0] rfl rfl trivial rfl rfl rfl
  | some a =>
    refine go (k := ?_)
    refine XL.make (.bslice rfl rfl rfl rfl rfl rfl) rfl fun v H hb => ?_
    obtain ⟨b, rfl, rfl⟩ := hb
    refine go (k := ?_)
    have hrd : ∀ (L : Heap), Rd w (ids []) L (.slice (some a) xs.length c) 1 xs.length (ivs xs) := fun L => .old hv (fun _ _ _ => by simp [X.ids])
    have hone : (ivs xs).all Value.oneCell' = true := ivs_one xs
    by_cases h0 : xs.length = 0
    · have hnil : xs = [] := List.eq_nil_of_length_eq_zero h0
      subst hnil
      refine XL.appRoom (cs' := []) rfl rfl rfl rfl rfl (.head _) (hrd _) hone (Nat.le_refl _) ⟨Nat.le_refl _, rfl⟩ .here rfl ?_
      refine go (k := ?_)
      refine XE.shutSl (m := 0) (cap := 0) (k := 1) (xs := []) (.head _) rfl (Nat.le_refl _) (Nat.zero_le _) rfl .here ?_
      exact XE.ret1 _ [0] rfl rfl trivial rfl rfl rfl
    · refine XL.make (.grow rfl rfl rfl rfl rfl rfl (by decide) .empty (hrd _) hone (by omega) (by simp; omega) (by simp; omega)) rfl fun v H hb => ?_
      subst hb
      refine go (k := ?_)
      exact XE.ret1 v [0] rfl rfl trivial rfl rfl rfl
/-! ### the line -/
abbrev lnCs (b : Nat) (cut : Int) (vc : Value) (acts : Nat) (down : Bool) : List Value := [ptr b, iv cut, vc, iv acts, .bool down]
abbrev lnG (bl b : Nat) (lv vc : Value) (cut : Int) (ch : List Int) (acts : Nat) (down : Bool) (ds : List Slot) : Heap := [.blk bl (lnCs b cut vc acts down) 91, .sl vc 3 1 (ivs ch), devE b lv ds]
def hdc (down : Bool) : Int := if down = true then 8 else 0
theorem is_at (bl b : Nat) (cut : Int) (vc : Value) (acts : Nat) (down : Bool) (t : TypeId) (fz : Nat × Nat) (w : World) (hb : w.heap[bl]? = some (.cells (lnCs b cut vc acts down).toArray t fz)) : Fx Tryz.prog 97 [ptr bl] w (Pure w (.bool true)) := by
  refine Fx.of (L0 := []) Tryz.func97 rfl (by kernel_rfl) Tryz.ntmps97 rfl (Owns.nil w) ?_
  have hB : bl ∉ ids ([] : Heap) := by simp [X.ids]
  have h0 : (lnCs b cut vc acts down)[0 + 0]? = some (ptr b) := rfl
  refine go (k := ?_)
  exact XE.ret1 () [] rfl rfl trivial rfl rfl rfl
theorem holds_at (bl b : Nat) (cut : Int) (vc : Value) (acts : Nat) (down : Bool) (t : TypeId) (fz : Nat × Nat) (w : World) (hb : w.heap[bl]? = some (.cells (lnCs b cut vc acts down).toArray t fz)) : Fx Tryz.prog 60 [ptr bl] w (Pure w (iv (hdc down))) := by
  refine Fx.of (L0 := []) Tryz.func60 rfl (by kernel_rfl) Tryz.ntmps60 rfl (Owns.nil w) ?_
  have hB : bl ∉ ids ([] : Heap) := by simp [X.ids]
  refine go (k := ?_)
  refine XL.q (.call rfl rfl fun _ w' hs => is_at bl b cut vc acts down t fz w' ((hs.kept.same bl (Array.getElem?_eq_some_iff.1 hb).1 (by simp [X.ids])).trans hb)) rfl ?_
  have h4 : (lnCs b cut vc acts down)[0 + 4]? = some (.bool down) := rfl
  cases down with
  | true =>
    refine go (k := ?_)
    exact XE.ret1 () [] rfl rfl trivial rfl rfl rfl
  | false =>
    refine go (k := ?_)
    exact XE.ret1 () [] rfl rfl trivial rfl rfl rfl
theorem ldev_at (bl b : Nat) (cut : Int) (vc : Value) (acts : Nat) (down : Bool) (t : TypeId) (fz : Nat × Nat) (w : World) (hb : w.heap[bl]? = some (.cells (lnCs b cut vc acts down).toArray t fz)) : Fx Tryz.prog 79 [ptr bl] w (Pure w (ptr b)) := by
  refine Fx.of (L0 := []) Tryz.func79 rfl (by kernel_rfl) Tryz.ntmps79 rfl (Owns.nil w) ?_
  have hB : bl ∉ ids ([] : Heap) := by simp [X.ids]
  have h0 : (lnCs b cut vc acts down)[0 + 0]? = some (ptr b) := rfl
  refine go (k := ?_)
  refine XL.q (.call rfl rfl fun _ w' hs => is_at bl b cut vc acts down t fz w' ((hs.kept.same bl (Array.getElem?_eq_some_iff.1 hb).1 (by simp [X.ids])).trans hb)) rfl ?_
  refine go (k := ?_)
  exact XE.ret1 () [] rfl rfl trivial rfl rfl rfl
/-- whether the first choice is odd -/
def oddc (ch : List Int) : Bool := match ch with
  | [] => false
  | c :: _ => decide (c.tmod 2 ≠ 0)
theorem last_at (bl b : Nat) (cut : Int) (vc : Value) (ch : List Int) (acts : Nat) (down : Bool) (t : TypeId) (fz : Nat × Nat) (w : World) (hb : w.heap[bl]? = some (.cells (lnCs b cut vc acts down).toArray t fz)) (hv : RowAt w vc 1 ch.length (ivs ch)) (hl : ch.length ≤ 1000000)
    (hw : ∀ a ∈ ch, -9223372036854775808 ≤ a ∧ a ≤ 9223372036854775807) : Fx Tryz.prog 90 [ptr bl] w (Pure w (.bool (oddc ch))) := by
  refine Fx.of (L0 := []) Tryz.func90 rfl (by kernel_rfl) Tryz.ntmps90 rfl (Owns.nil w) ?_
  have hB : bl ∉ ids ([] : Heap) := by simp [X.ids]
  have hr : ∀ L : Heap, Rd w (ids []) L vc 1 ch.length (ivs ch) := fun L => .old hv (fun _ _ _ => by simp [X.ids])
  refine XC.rdv (hr _) fun ao m hva _ _ haa => ?_
  subst hva
  have h2 : (lnCs b cut (.slice ao ch.length m) acts down)[0 + 2]? = some (.slice ao ch.length m) := rfl
  cases ch with
  | nil =>
    refine go (k := ?_)
    exact XE.ret1 () [] rfl rfl trivial rfl rfl rfl
  | cons c ch =>
    obtain ⟨b1, o1, rfl⟩ : ∃ b off, ao = some ⟨b, off, none⟩ := haa.resolve_left (by simp)
    have hlen : 0 < (c :: ch).length := by simp
    refine go (k := ?_)
    refine XL.q (.ldRd (j := 0 * 1) rfl rfl rfl (hr _) (by omega) rfl) rfl ?_
    have hcw := hw c (.head _)
    refine go (k := ?_)
    exact XE.ret1 () [] rfl rfl trivial rfl rfl rfl
/-! ### Blow -/
theorem line_row {bl b : Nat} {lv vc : Value} {cut : Int} {ch : List Int} {acts : Nat} {down : Bool} {ds : List Slot} {w w' : World} (ho : Owns w (lnG bl b lv vc cut ch acts down ds)) (hk : Kept (ids (devG b lv ds)) w w') : RowAt w' vc 1 ch.length (ivs ch) := by
  have h1 : Owns w ([.blk bl (lnCs b cut vc acts down) 91, .sl vc 3 1 (ivs ch)] ++ [devE b lv ds]) := ho
  have h2 := h1.left.of_kept hk fun x hx h => h1.apart x hx (by rw [ids_grp1]; exact h)
  exact (h2.ok _ (.tail _ (.head _)) : SlOk w' vc _ 1 _).rowAt (by decide) (by simp)
def blown (ch : List Int) (down : Bool) (ds : List Slot) : List Slot := if down = true then ds else settled (Fc ch) ds
theorem blow_ok (bl b : Nat) (lv vc : Value) (cut : Int) (ch : List Int) (acts : Nat) (down : Bool) (ds : List Slot) (w : World) (hk : Oks ds) (hn : ds.length ≤ 100000) (hl : ch.length ≤ 1000000) (hw : ∀ a ∈ ch, -9223372036854775808 ≤ a ∧ a ≤ 9223372036854775807)
    (ho : Owns w (lnG bl b lv vc cut ch acts down ds)) :
    Fx Tryz.prog 22 [ptr bl] w (Ret w (lnG bl b lv vc cut ch acts down ds) (fun _ : Unit => .tuple #[]) (fun _ => lnG bl b lv vc cut ch acts true (blown ch down ds)) (fun _ => True)) := by
  refine Fx.of Tryz.func22 rfl (by kernel_rfl) Tryz.ntmps22 rfl ho ?_
  refine go (k := ?_)
  refine XL.q (.call rfl rfl fun _ w' hs => holds_at bl b cut vc acts down _ _ w' (hs.own.ok _ (.head _))) rfl ?_
  cases down with
  | true =>
    refine go (k := ?_)
    exact XE.end0 () [0, 1, 2] rfl trivial rfl rfl rfl
  | false =>
    have sp : SplL (lnCs b cut vc acts false) (0 + 4) [.bool true] (lnCs b cut vc acts true) := ⟨by simp, rfl⟩
    refine go (k := ?_)
    refine XL.call [2] [0, 1] rfl rfl rfl rfl rfl (fun _ w1 hs ho => Fx.grp (fun ho => crash_ok b lv ds vc ch w1 hk hn (fun w' hk' => line_row hs.own hk') hl hw ho) ho) fun _ _ => ?_
    refine go (k := ?_)
    exact XE.end0 () [1, 2, 0] rfl trivial rfl rfl rfl
/-! ### act -/
structure Ln where
  acts : Nat
  down : Bool
  ds : List Slot
abbrev lnX (bl b : Nat) (lv vc : Value) (cut : Int) (ch : List Int) (x : Ln) : Heap := lnG bl b lv vc cut ch x.acts x.down x.ds
def Ln.act (cut : Int) (ch : List Int) (x : Ln) (e : Int) (ds' : List Slot) : Int × Ln := if x.down = true then (8, x) else if (x.acts : Int) = cut then (8, ⟨x.acts + 1, true, settled (Fc ch) (if oddc ch = true then ds' else x.ds)⟩) else (e, ⟨x.acts + 1, false, ds'⟩)
set_option maxHeartbeats 1000000 in
theorem act_ok (bl b : Nat) (lv vc : Value) (cut : Int) (ch : List Int) (x : Ln) (Z1 Z2 Z3 : Ent) (e : Int) (ds' : List Slot) (g : FuncId) (cap : List Value) (w : World) (hk : Oks x.ds) (hn : x.ds.length ≤ 100000) (hk' : Oks ds') (hn' : ds'.length ≤ 100000) (ha : x.acts ≤ 1000000)
    (hl : ch.length ≤ 1000000) (hw : ∀ a ∈ ch, -9223372036854775808 ≤ a ∧ a ≤ 9223372036854775807)
    (hF : ∀ w', Owns w' (lnG bl b lv vc cut ch (x.acts + 1) false x.ds ++ [Z1, Z2, Z3]) → Fx Tryz.prog g cap w' (Ret w' (lnG bl b lv vc cut ch (x.acts + 1) false x.ds ++ [Z1, Z2, Z3]) (fun _ : Unit => iv e) (fun _ => lnG bl b lv vc cut ch (x.acts + 1) false ds' ++ [Z1, Z2, Z3]) (fun _ => True)))
    (ho : Owns w (lnX bl b lv vc cut ch x ++ [Z1, Z2, Z3])) :
    Fx Tryz.prog 49 [ptr bl, .func (.func g) #[] cap.toArray] w (Ret w (lnX bl b lv vc cut ch x ++ [Z1, Z2, Z3]) (fun _ : Unit => iv (x.act cut ch e ds').1) (fun _ => lnX bl b lv vc cut ch (x.act cut ch e ds').2 ++ [Z1, Z2, Z3]) (fun _ => True)) := by
  obtain ⟨acts, down, ds⟩ := x
  simp only at hk hn ha hF ho ⊢
  refine Fx.of Tryz.func49 rfl (by kernel_rfl) Tryz.ntmps49 rfl ho ?_
  refine go (k := ?_)
  refine XL.q (.call rfl rfl fun _ w' hs => holds_at bl b cut vc acts down _ _ w' (hs.own.ok _ (.head _))) rfl ?_
  cases down with
  | true =>
    refine go (k := ?_)
    exact XE.ret1 () [0, 1, 2, 3, 4, 5] rfl rfl trivial rfl rfl rfl
  | false =>
    have h3 : (lnCs b cut vc acts false)[0 + 3]? = some (iv acts) := rfl
    have h1 : (lnCs b cut vc (acts + 1) false)[0 + 1]? = some (iv cut) := rfl
    have sp : SplL (lnCs b cut vc acts false) (0 + 3) [iv ((acts : Int) + 1)] (lnCs b cut vc (acts + 1) false) := ⟨by simp, rfl⟩
    by_cases hc : (acts : Int) = cut
    · have hA : Ln.act cut ch ⟨acts, false, ds⟩ e ds' = (8, ⟨acts + 1, true, settled (Fc ch) (if oddc ch = true then ds' else ds)⟩) := by unfold Ln.act; simp [hc]
      rw [hA]
      refine go (k := ?_)
      refine XL.q (.call rfl rfl fun _ w' hs => last_at bl b cut vc ch (acts + 1) false _ _ w' (hs.own.ok _ (.head _)) (line_row (Owns.left hs.own) (Kept.refl _ _)) hl hw) rfl ?_
      cases hodd : oddc ch with
      | true =>
        refine go (k := ?_)
        refine XL.call [0, 1, 2, 3, 4, 5] [] rfl rfl rfl rfl rfl (fun _ w' _ ho => hF w' ho) fun _ _ => ?_
        refine XL.nm ?_
        refine go (k := ?_)
        refine XL.call [0, 1, 2] [3, 4, 5] rfl rfl rfl rfl rfl (fun _ w' _ ho => blow_ok bl b lv vc cut ch (acts + 1) false ds' w' hk' hn' hl hw ho) fun _ _ => ?_
        refine XL.nm ?_
        refine go (k := ?_)
        exact XE.ret1 () [0, 1, 2, 3, 4, 5] rfl rfl trivial rfl rfl rfl
      | false =>
        refine go (k := ?_)
        refine XL.call [0, 1, 2] [3, 4, 5] rfl rfl rfl rfl rfl (fun _ w' _ ho => blow_ok bl b lv vc cut ch (acts + 1) false ds w' hk hn hl hw ho) fun _ _ => ?_
        refine XL.nm ?_
        refine go (k := ?_)
        exact XE.ret1 () [0, 1, 2, 3, 4, 5] rfl rfl trivial rfl rfl rfl
    · have hA : Ln.act cut ch ⟨acts, false, ds⟩ e ds' = (e, ⟨acts + 1, false, ds'⟩) := by unfold Ln.act; simp [hc]
      rw [hA]
      refine go (k := ?_)
      refine XL.call [0, 1, 2, 3, 4, 5] [] rfl rfl rfl rfl rfl (fun _ w' _ ho => hF w' ho) fun _ _ => ?_
      refine XL.nm ?_
      refine go (k := ?_)
      exact XE.ret1 () [0, 1, 2, 3, 4, 5] rfl rfl trivial rfl rfl rfl
theorem lwriteF_ok (bl b b3 b4 b5 : Nat) (lv vc : Value) (cut : Int) (ch : List Int) (acts : Nat) (ds : List Slot) (k : Int) (s : List UInt8) (w : World) (hk : Oks ds) (hn : 0 < ds.length)
    (ho : Owns w (lnG bl b lv vc cut ch acts false ds ++ [.blk b3 [ptr bl] 32, .blk b4 [iv k] 3, .blk b5 [str s] 9])) :
    Fx Tryz.prog 50 [ptr b3, ptr b4, ptr b5] w (Ret w (lnG bl b lv vc cut ch acts false ds ++ [.blk b3 [ptr bl] 32, .blk b4 [iv k] 3, .blk b5 [str s] 9]) (fun _ : Unit => iv (dwr ds k s).1)
      (fun _ => lnG bl b lv vc cut ch acts false (dwr ds k s).2 ++ [.blk b3 [ptr bl] 32, .blk b4 [iv k] 3, .blk b5 [str s] 9]) (fun _ => True)) := by
  refine Fx.of Tryz.func50 rfl (by kernel_rfl) Tryz.ntmps50 rfl ho ?_
  have h0 : (lnCs b cut vc acts false)[0 + 0]? = some (ptr b) := rfl
  refine go (k := ?_)
  refine XL.call [2] [0, 1, 3, 4, 5] rfl rfl rfl rfl rfl (fun _ w _ ho => write_any b lv ds k s w hk hn ho) fun _ _ => ?_
  refine XL.nm ?_
  refine go (k := ?_)
  exact XE.ret1 () [1, 2, 0, 3, 4, 5] rfl rfl trivial rfl rfl rfl
theorem lflushF_ok (bl b b3 : Nat) (Z2 Z3 : Ent) (lv vc : Value) (cut : Int) (ch : List Int) (acts : Nat) (ds : List Slot) (w : World) (hk : Oks ds) (hn : ds.length ≤ 100000)
    (ho : Owns w (lnG bl b lv vc cut ch acts false ds ++ [.blk b3 [ptr bl] 32, Z2, Z3])) :
    Fx Tryz.prog 80 [ptr b3] w (Ret w (lnG bl b lv vc cut ch acts false ds ++ [.blk b3 [ptr bl] 32, Z2, Z3]) (fun _ : Unit => iv 0)
      (fun _ => lnG bl b lv vc cut ch acts false (settled F64 ds) ++ [.blk b3 [ptr bl] 32, Z2, Z3]) (fun _ => True)) := by
  refine Fx.of Tryz.func80 rfl (by kernel_rfl) Tryz.ntmps80 rfl ho ?_
  have h0 : (lnCs b cut vc acts false)[0 + 0]? = some (ptr b) := rfl
  refine go (k := ?_)
  refine XL.call [2] [0, 1, 3, 4, 5] rfl rfl rfl rfl rfl (fun _ w _ ho => Fx.grp (fun ho => flush_ok b lv ds w hk hn ho) ho) fun _ _ => ?_
  refine XL.nm ?_
  refine go (k := ?_)
  exact XE.ret1 () [1, 2, 0, 3, 4, 5] rfl rfl trivial rfl rfl rfl
def Ln.write (cut : Int) (ch : List Int) (x : Ln) (k : Int) (s : List UInt8) : Int × Ln := x.act cut ch (dwr x.ds k s).1 (dwr x.ds k s).2
def Ln.flush (cut : Int) (ch : List Int) (x : Ln) : Int × Ln := x.act cut ch 0 (settled F64 x.ds)
theorem lwrite_ok (bl b : Nat) (lv vc : Value) (cut : Int) (ch : List Int) (x : Ln) (k : Int) (s : List UInt8) (w : World) (hk : Oks x.ds) (hn0 : 0 < x.ds.length) (hn : x.ds.length ≤ 100000) (ha : x.acts ≤ 1000000)
    (hl : ch.length ≤ 1000000) (hw : ∀ a ∈ ch, -9223372036854775808 ≤ a ∧ a ≤ 9223372036854775807) (ho : Owns w (lnX bl b lv vc cut ch x)) :
    Fx Tryz.prog 15 [ptr bl, iv k, str s] w (Ret w (lnX bl b lv vc cut ch x) (fun _ : Unit => iv (x.write cut ch k s).1) (fun _ => lnX bl b lv vc cut ch (x.write cut ch k s).2) (fun _ => True)) := by
  refine Fx.of Tryz.func15 rfl (by kernel_rfl) Tryz.ntmps15 rfl ho ?_
  refine go (k := ?_)
  refine XL.box rfl rfl rfl fun b3 => ?_
  refine go (k := ?_)
  refine XL.box rfl rfl rfl fun b4 => ?_
  refine go (k := ?_)
  refine XL.box rfl rfl rfl fun b5 => ?_
  refine go (k := ?_)
  refine XL.call [3, 4, 5, 2, 1, 0] [] rfl rfl rfl rfl rfl (fun _ w _ ho => act_ok bl b lv vc cut ch x (.blk b3 [ptr bl] 32) (.blk b4 [iv k] 3) (.blk b5 [str s] 9) (dwr x.ds k s).1 (dwr x.ds k s).2 50 [ptr b3, ptr b4, ptr b5] w hk hn (dwr_ok hk k s) (by rw [dwr_len]; exact hn) ha hl hw
    (fun w' ho' => lwriteF_ok bl b b3 b4 b5 lv vc cut ch (x.acts + 1) x.ds k s w' hk hn0 ho') ho) fun _ _ => ?_
  refine XL.nm ?_
  refine go (k := ?_)
  exact XE.ret1 () [0, 1, 2] rfl rfl trivial rfl rfl rfl
theorem lflush_ok (bl b : Nat) (lv vc : Value) (cut : Int) (ch : List Int) (x : Ln) (w : World) (hk : Oks x.ds) (hn : x.ds.length ≤ 100000) (ha : x.acts ≤ 1000000)
    (hl : ch.length ≤ 1000000) (hw : ∀ a ∈ ch, -9223372036854775808 ≤ a ∧ a ≤ 9223372036854775807) (ho : Owns w (lnX bl b lv vc cut ch x)) :
    Fx Tryz.prog 43 [ptr bl] w (Ret w (lnX bl b lv vc cut ch x) (fun _ : Unit => iv (x.flush cut ch).1) (fun _ => lnX bl b lv vc cut ch (x.flush cut ch).2) (fun _ => True)) := by
  refine Fx.of Tryz.func43 rfl (by kernel_rfl) Tryz.ntmps43 rfl ho ?_
  refine XC.addG0 ?_
  refine XC.addG0 ?_
  refine go (k := ?_)
  refine XL.box rfl rfl rfl fun b3 => ?_
  refine go (k := ?_)
  refine XL.call [3, 4, 5, 0, 1, 2] [] rfl rfl rfl rfl rfl (fun _ w _ ho => act_ok bl b lv vc cut ch x (.blk b3 [ptr bl] 32) (grp []) (grp []) 0 (settled F64 x.ds) 80 [ptr b3] w hk hn (settled_ok hk) (by rw [settled_len]; exact hn) ha hl hw
    (fun w' ho' => lflushF_ok bl b b3 (grp []) (grp []) lv vc cut ch (x.acts + 1) x.ds w' hk hn ho') ho) fun _ _ => ?_
  refine XL.nm ?_
  refine go (k := ?_)
  exact XE.ret1 () [0, 1, 2] rfl rfl trivial rfl rfl rfl
/-! ### Read, New -/
def drd (ds : List Slot) (k : Int) : List UInt8 × Int := if ds.length = 0 then ([], 1) else if k < 0 ∨ ds.length ≤ k then ([], 2) else ((ds.getD k.toNat slot0).read, 0)
theorem read_any (b : Nat) (lv : Value) (ds : List Slot) (k : Int) (w : World) (hk : Oks ds) (hn : 0 < ds.length) (ho : Owns w (devG b lv ds)) : Fx Tryz.prog 112 [ptr b, iv k] w (Pure w (.tuple #[str (drd ds k).1, iv (drd ds k).2])) := by
  by_cases h1 : k < 0 ∨ ds.length ≤ k
  · have e : drd ds k = ([], 2) := by unfold drd; rw [if_neg (by omega), if_pos h1]
    rw [e]
    refine read_err (ptr b) k 2 w (by decide) fun w' hk' => dat_err b lv ds k 2 w' hk ?_ (ho.of_kept hk' fun _ _ h => by cases h)
    unfold errAt; rw [if_neg (by omega), if_pos h1]
  · obtain ⟨j, rfl⟩ : ∃ j : Nat, k = j := ⟨k.toNat, by omega⟩
    obtain ⟨x, hx⟩ : ∃ x, ds[j]? = some x := ⟨_, List.getElem?_eq_getElem (by omega)⟩
    have e : drd ds j = (x.read, 0) := by
      unfold drd; rw [if_neg (by omega), if_neg h1, Int.toNat_natCast, List.getD_eq_getElem?_getD, hx]; rfl
    rw [e]
    exact read_ok b lv ds j x w hk hx ho
def Ln.read (x : Ln) (k : Int) : List UInt8 × Int := if x.down = true then ([], 8) else drd x.ds k
theorem lread_ok (bl b : Nat) (lv vc : Value) (cut : Int) (ch : List Int) (x : Ln) (k : Int) (w : World) (hk : Oks x.ds) (hn0 : 0 < x.ds.length) (ho : Owns w (lnX bl b lv vc cut ch x)) :
    Fx Tryz.prog 83 [ptr bl, iv k] w (Pure w (.tuple #[str (x.read k).1, iv (x.read k).2])) := by
  obtain ⟨acts, down, ds⟩ := x
  simp only at hk hn0 ho ⊢
  have hown : ∀ w', Kept [] w w' → Owns w' (lnG bl b lv vc cut ch acts down ds) := fun w' k => ho.of_kept k (fun _ _ h => by cases h)
  have hb : w.heap[bl]? = some (.cells (lnCs b cut vc acts down).toArray _ (0, 0)) := ho.ok _ (.head _)
  have hB : bl ∉ ids ([] : Heap) := by simp [X.ids]
  have h0 : (lnCs b cut vc acts down)[0 + 0]? = some (ptr b) := rfl
  refine Fx.of (L0 := []) Tryz.func83 rfl (by kernel_rfl) Tryz.ntmps83 rfl (Owns.nil w) ?_
  refine go (k := ?_)
  refine XL.q (.call rfl rfl fun _ w' hs => holds_at bl b cut vc acts down _ _ w' ((hown w' hs.kept).ok _ (.head _))) rfl ?_
  cases down with
  | true =>
    refine go (k := ?_)
    exact XE.ret2 () [] rfl rfl rfl trivial rfl rfl rfl
  | false =>
    refine go (k := ?_)
    refine XL.q (.call rfl rfl fun _ w' hs => read_any b lv ds k w' hk hn0 ((hown w' hs.kept).grp (.tail _ (.tail _ (.head _))))) rfl ?_
    refine go (k := ?_)
    exact XE.ret2 () [] rfl rfl rfl trivial rfl rfl rfl
theorem lnew_ok (b : Nat) (lv : Value) (ds : List Slot) (cut : Int) (v : Value) (ch : List Int) (w : World) (hk : Oks ds) (hn : 0 < ds.length) (hl : ch.length ≤ 1000000) (hv : ∀ w', Kept (ids (devG b lv ds)) w w' → RowAt w' v 1 ch.length (ivs ch)) (ho : Owns w [devE b lv ds]) :
    Fx Tryz.prog 11 [ptr b, iv cut, v] w (Ret w [devE b lv ds] (fun x : Nat × Value => ptr x.1) (fun x => lnX x.1 b lv x.2 cut ch ⟨0, false, ds⟩) (fun _ => True)) := by
  refine Fx.of Tryz.func11 rfl (by kernel_rfl) Tryz.ntmps11 rfl ho ?_
  refine go (k := ?_)
  refine XL.q (.call rfl rfl fun _ w' hs => blocks_ok b lv ds w' hk (hs.own.grp (.head _))) rfl ?_
  refine go (k := ?_)
  refine XL.make (.call rfl rfl fun _ w' hs => iclone_ok v ch w' (hv w' (hs.kept.mono fun x hx => by rw [← ids_grp1]; exact hx)) (by omega)) rfl fun v' H hv => ?_
  obtain ⟨v', _, rfl, rfl⟩ := hv
  refine XL.nm ?_
  refine XL.slv (.head _) fun ao q m hv hq _ => ?_
  subst hv
  refine go (k := ?_)
  refine XL.box rfl rfl rfl fun bl => ?_
  refine go (k := ?_)
  exact XE.ret1 (bl, .slice ao q m) [0, 1, 2] rfl rfl trivial rfl rfl rfl
end Go.X
/- Package region: there, may, did, Left, Format. -/
namespace Go.X
open Go Go.Proofs
/-- there -/
def thr (m : Nat) (a n : Int) : Int := if a < 0 ∨ n < 2 ∨ 65536 < n ∨ (m : Int) < n ∨ (m : Int) - n < a then 2 else 0
theorem there_ok (bl b : Nat) (lv vc : Value) (cut : Int) (ch : List Int) (x : Ln) (a n : Int) (w : World) (hk : Oks x.ds) (hn : x.ds.length ≤ 100000) (ho : Owns w (lnX bl b lv vc cut ch x)) :
    Fx Tryz.prog 42 [ptr bl, iv a, iv n] w (Pure w (iv (thr x.ds.length a n))) := by
  have hown : ∀ w', Kept [] w w' → Owns w' (lnX bl b lv vc cut ch x) := fun w' k => ho.of_kept k (fun _ _ h => by cases h)
  have hdev : ∀ w', Kept [] w w' → Fx Tryz.prog 79 [ptr bl] w' (Pure w' (ptr b)) := fun w' k => ldev_at bl b cut vc x.acts x.down _ _ w' ((hown w' k).ok _ (.head _))
  refine Fx.of (L0 := []) Tryz.func42 rfl (by kernel_rfl) Tryz.ntmps42 rfl (Owns.nil w) ?_
  refine go (k := ?_)
  refine XL.q (.call rfl rfl fun _ w' hs => hdev w' hs.kept) rfl ?_
  refine go (k := ?_)
  refine XL.q (.call rfl rfl fun _ w' hs => hdev w' hs.kept) rfl ?_
  refine go (k := ?_)
  refine XL.q (.call rfl rfl fun _ w' hs => blocks_ok b lv x.ds w' hk ((hown w' hs.kept).grp (.tail _ (.tail _ (.head _))))) rfl ?_
  have hbad : ∀ h : a < 0 ∨ n < 2 ∨ 65536 < n ∨ (x.ds.length : Int) < n ∨ (x.ds.length : Int) - n < a, thr x.ds.length a n = 2 := fun h => by unfold thr; rw [if_pos h]
  by_cases c1 : a < 0
  · rw [hbad (.inl c1)]
    refine go (k := ?_)
    exact XE.ret1 () [] rfl rfl trivial rfl rfl rfl
  by_cases c2 : n < 2
  · rw [hbad (.inr (.inl c2))]
    refine go (k := ?_)
    exact XE.ret1 () [] rfl rfl trivial rfl rfl rfl
  by_cases c3 : 65536 < n
  · rw [hbad (.inr (.inr (.inl c3)))]
    refine go (k := ?_)
    exact XE.ret1 () [] rfl rfl trivial rfl rfl rfl
  by_cases c4 : (x.ds.length : Int) < n
  · rw [hbad (.inr (.inr (.inr (.inl c4))))]
    refine go (k := ?_)
    exact XE.ret1 () [] rfl rfl trivial rfl rfl rfl
  by_cases c5 : (x.ds.length : Int) - n < a
  · rw [hbad (.inr (.inr (.inr (.inr c5))))]
    refine go (k := ?_)
    exact XE.ret1 () [] rfl rfl trivial rfl rfl rfl
  · have e : thr x.ds.length a n = 0 := by unfold thr; rw [if_neg (by omega)]
    rw [e]
    refine go (k := ?_)
    exact XE.ret1 () [] rfl rfl trivial rfl rfl rfl
structure Rg where
  at_ : Nat
  n : Nat
  used : Nat
  broken : Bool
abbrev rgCs (bl : Nat) (g : Rg) : List Value := [ptr bl, iv g.at_, iv g.n, iv g.used, .bool g.broken, .bool true]
abbrev rgB (br bl : Nat) (g : Rg) : Ent := .blk br (rgCs bl g) 95
def mayc (b : Bool) : Int := if b = true then 17 else 0
theorem may_at (br bl : Nat) (g : Rg) (t : TypeId) (fz : Nat × Nat) (w : World) (hb : w.heap[br]? = some (.cells (rgCs bl g).toArray t fz)) : Fx Tryz.prog 76 [ptr br] w (Pure w (iv (mayc g.broken))) := by
  obtain ⟨a, n, used, broken⟩ := g
  have hB : br ∉ ids ([] : Heap) := by simp [X.ids]
  have h5 : (rgCs bl ⟨a, n, used, broken⟩)[0 + 5]? = some (.bool true) := rfl
  have h4 : (rgCs bl ⟨a, n, used, broken⟩)[0 + 4]? = some (.bool broken) := rfl
  refine Fx.of (L0 := []) Tryz.func76 rfl (by kernel_rfl) Tryz.ntmps76 rfl (Owns.nil w) ?_
  cases broken with
  | true =>
    refine go (k := ?_)
    exact XE.ret1 () [] rfl rfl trivial rfl rfl rfl
  | false =>
    refine go (k := ?_)
    exact XE.ret1 () [] rfl rfl trivial rfl rfl rfl
theorem left_at (br bl : Nat) (g : Rg) (t : TypeId) (fz : Nat × Nat) (w : World) (hg : g.n ≤ 1000000 ∧ g.used ≤ 1000000) (hb : w.heap[br]? = some (.cells (rgCs bl g).toArray t fz)) : Fx Tryz.prog 18 [ptr br] w (Pure w (iv ((g.n : Int) - 1 - g.used))) := by
  obtain ⟨a, n, used, broken⟩ := g
  simp only at hg
  have hB : br ∉ ids ([] : Heap) := by simp [X.ids]
  have h5 : (rgCs bl ⟨a, n, used, broken⟩)[0 + 5]? = some (.bool true) := rfl
  have h2 : (rgCs bl ⟨a, n, used, broken⟩)[0 + 2]? = some (iv n) := rfl
  have h3 : (rgCs bl ⟨a, n, used, broken⟩)[0 + 3]? = some (iv used) := rfl
  refine Fx.of (L0 := []) Tryz.func18 rfl (by kernel_rfl) Tryz.ntmps18 rfl (Owns.nil w) ?_
  refine go (k := ?_)
  exact XE.ret1 () [] rfl rfl trivial rfl rfl rfl
theorem did_ok (br bl : Nat) (g : Rg) (e : Int) (w : World) (ho : Owns w [rgB br bl g]) :
    Fx Tryz.prog 78 [ptr br, iv e] w (Ret w [rgB br bl g] (fun _ : Unit => iv e) (fun _ => [rgB br bl { g with broken := g.broken || decide (e ≠ 0) }]) (fun _ => True)) := by
  obtain ⟨a, n, used, broken⟩ := g
  refine Fx.of Tryz.func78 rfl (by kernel_rfl) Tryz.ntmps78 rfl ho ?_
  cases broken with
  | true =>
    refine go (k := ?_)
    exact XE.ret1 () [0] rfl rfl trivial rfl rfl rfl
  | false =>
    refine go (k := ?_)
    exact XE.ret1 () [0] rfl rfl trivial rfl rfl rfl
theorem may_nil (w : World) : Fx Tryz.prog 76 [.pointer none] w (Pure w (iv 1)) := by
  refine Fx.of (L0 := []) Tryz.func76 rfl (by kernel_rfl) Tryz.ntmps76 rfl (Owns.nil w) ?_
  refine go (k := ?_)
  exact XE.ret1 () [] rfl rfl trivial rfl rfl rfl
theorem left_nil (w : World) : Fx Tryz.prog 18 [.pointer none] w (Pure w (iv 0)) := by
  refine Fx.of (L0 := []) Tryz.func18 rfl (by kernel_rfl) Tryz.ntmps18 rfl (Owns.nil w) ?_
  refine go (k := ?_)
  exact XE.ret1 () [] rfl rfl trivial rfl rfl rfl
end Go.X
/- Package region: writes in a row; Format. -/
namespace Go.X
open Go Go.Proofs
structure LIn (n m : Nat) (x : Ln) : Prop where
  ok : Oks x.ds
  len : x.ds.length = n
  acts : x.acts ≤ m
theorem LIn.act {n m : Nat} {x : Ln} (h : LIn n m x) (cut : Int) (ch : List Int) (e : Int) {ds : List Slot} (hk : Oks ds) (hl : ds.length = n) : LIn n (m + 1) (x.act cut ch e ds).2 := by
  have ha := h.acts
  unfold Ln.act
  split
  · exact ⟨h.ok, h.len, by simp only; omega⟩
  · split
    · refine ⟨settled_ok ?_, ?_, by simp only; omega⟩
      · split
        · exact hk
        · exact h.ok
      · simp only [settled_len]
        split
        · exact hl
        · exact h.len
    · exact ⟨hk, hl, by simp only; omega⟩
theorem LIn.write {n m : Nat} {x : Ln} (h : LIn n m x) (cut : Int) (ch : List Int) (k : Int) (s : List UInt8) : LIn n (m + 1) (x.write cut ch k s).2 :=
  h.act cut ch _ (dwr_ok h.ok k s) (by rw [dwr_len]; exact h.len)
theorem LIn.flush {n m : Nat} {x : Ln} (h : LIn n m x) (cut : Int) (ch : List Int) : LIn n (m + 1) (x.flush cut ch).2 :=
  h.act cut ch _ (settled_ok h.ok) (by rw [settled_len]; exact h.len)
/-- writes in a row, up to the first error -/
def wrs (cut : Int) (ch : List Int) : List (Int × List UInt8) → Ln → Int × Ln
  | [], x => (0, x)
  | p :: l, x => if (x.write cut ch p.1 p.2).1 ≠ 0 then x.write cut ch p.1 p.2 else wrs cut ch l (x.write cut ch p.1 p.2).2
theorem wrs_snoc {cut : Int} {ch : List Int} : ∀ (l : List (Int × List UInt8)) (x : Ln) (p : Int × List UInt8), (wrs cut ch l x).1 = 0 → wrs cut ch (l ++ [p]) x = (wrs cut ch l x).2.write cut ch p.1 p.2
  | [], x, p, _ => by
    simp only [List.nil_append, wrs]
    split
    · rfl
    · rename_i h
      have h' : (x.write cut ch p.1 p.2).1 = 0 := by simpa using h
      rw [← h']
  | q :: l, x, p, h => by
    simp only [List.cons_append, wrs] at h ⊢
    split at h
    · rename_i h1; exact absurd h h1
    · rename_i h1
      rw [if_neg h1, if_neg h1]
      exact wrs_snoc l _ p h
theorem wrs_stop {cut : Int} {ch : List Int} : ∀ (l m : List (Int × List UInt8)) (x : Ln), (wrs cut ch l x).1 ≠ 0 → wrs cut ch (l ++ m) x = wrs cut ch l x
  | [], m, x, h => absurd rfl h
  | q :: l, m, x, h => by
    simp only [List.cons_append, wrs] at h ⊢
    split
    · rfl
    · rename_i h1
      rw [if_neg h1] at h
      exact wrs_stop l m _ h
theorem LIn.wrs {n : Nat} {cut : Int} {ch : List Int} : ∀ (l : List (Int × List UInt8)) {m : Nat} {x : Ln}, LIn n m x → LIn n (m + l.length) (X.wrs cut ch l x).2
  | [], m, x, h => h
  | p :: l, m, x, h => by
    have h1 := h.write cut ch p.1 p.2
    simp only [X.wrs]
    split
    · exact ⟨h1.ok, h1.len, by have := h1.acts; simp only [List.length_cons]; omega⟩
    · have := LIn.wrs (cut := cut) (ch := ch) l h1
      rw [List.length_cons, show m + (l.length + 1) = m + 1 + l.length by omega]
      exact this
/-- what Format writes -/
def fmtl (a : Int) (n : Nat) : List (Int × List UInt8) := (List.range n).map fun k : Nat => (a + (k : Int), [])
def fmt (cut : Int) (ch : List Int) (a : Int) (n : Nat) (x : Ln) : Int × Ln :=
  if (wrs cut ch (fmtl a n) x).1 ≠ 0 then wrs cut ch (fmtl a n) x else (wrs cut ch (fmtl a n) x).2.flush cut ch
theorem fmtl_len (a : Int) (n : Nat) : (fmtl a n).length = n := by unfold fmtl; rw [List.length_map, List.length_range]
theorem fmtl_at (a : Int) {n k : Nat} (h : k < n) : (fmtl a n)[k]? = some (a + (k : Int), []) := by unfold fmtl; rw [List.getElem?_map, List.getElem?_range h]; rfl
set_option maxHeartbeats 1000000 in
theorem format_ok (bl b : Nat) (lv vc : Value) (cut : Int) (ch : List Int) (x : Ln) (a n m : Nat) (w : World) (hx : LIn m 100000 x) (hm0 : 0 < m) (hm : m ≤ 100000) (ht : thr m a n = 0) (hn : n ≤ 65536)
    (hl : ch.length ≤ 1000000) (hw : ∀ a ∈ ch, -9223372036854775808 ≤ a ∧ a ≤ 9223372036854775807) (ho : Owns w (lnX bl b lv vc cut ch x)) :
    Fx Tryz.prog 12 [ptr bl, iv a, iv n] w (Ret w (lnX bl b lv vc cut ch x) (fun br : Nat => .tuple #[if (fmt cut ch a n x).1 = 0 then ptr br else .pointer none, iv (fmt cut ch a n x).1])
      (fun br => (if (fmt cut ch a n x).1 = 0 then [rgB br bl ⟨a, n, 0, false⟩] else []) ++ lnX bl b lv vc cut ch (fmt cut ch a n x).2) (fun _ => True)) := by
  have hown : ∀ w', Kept [] w w' → Owns w' (lnX bl b lv vc cut ch x) := fun w' k => ho.of_kept k (fun _ _ h => by cases h)
  have hlen : (a : Int) + n ≤ 200000 := by
    unfold thr at ht
    split at ht
    · cases ht
    · omega
  refine Fx.of Tryz.func12 rfl (by kernel_rfl) Tryz.ntmps12 rfl ho ?_
  refine go (k := ?_)
  refine XL.q (.call (v := iv 0) rfl rfl fun _ w' hs => by
    have := there_ok bl b lv vc cut ch x a n w' hx.ok (by rw [hx.len]; exact hm) hs.own
    rw [hx.len, ht] at this; exact this) rfl ?_
  refine go (k := ?_)
  refine XC.loop (α := Nat × Ln) (fun y => [(0, ptr bl), (1, iv a), (2, iv n), (19, iv n), (20, iv y.1)]) (fun y => lnX bl b lv vc cut ch y.2) (fun y => y.1 ≤ n ∧ wrs cut ch ((fmtl a n).take y.1) x = (0, y.2)) (fun y => n - y.1) (0, x) [0, 1, 2] ⟨Nat.zero_le _, rfl⟩ ⟨rfl, rfl, rfl, rfl, rfl, trivial⟩ rfl rfl ?_
  rintro ⟨k, y⟩ ⟨hk, hy⟩
  simp only at hk hy ⊢
  have hyi : LIn m (100000 + k) y := by
    have := LIn.wrs (cut := cut) (ch := ch) ((fmtl a n).take k) hx
    rw [hy, List.length_take, fmtl_len, Nat.min_eq_left hk] at this
    exact this
  have hya := hyi.acts
  by_cases hlt : k < n
  · have hsn : wrs cut ch ((fmtl a n).take (k + 1)) x = y.write cut ch (a + k) [] := by
      rw [take_snoc (fmtl_at (a : Int) hlt), wrs_snoc _ _ _ (by rw [hy]), hy]
    refine go (k := ?_)
    refine XL.call [0, 1, 2] [] rfl rfl rfl rfl rfl (fun _ w _ ho => lwrite_ok bl b lv vc cut ch y (a + k) [] w hyi.ok (by rw [hyi.len]; exact hm0) (by rw [hyi.len]; exact hm) (by omega) hl hw ho) fun _ _ => ?_
    obtain ⟨r, hr⟩ : ∃ r, r = y.write cut ch (a + k) [] := ⟨_, rfl⟩
    rw [← hr] at hsn ⊢
    obtain ⟨e1, y1⟩ := r
    simp only
    refine XL.nm (M := lnX bl b lv vc cut ch y1) ?_ (by simp [X.pick])
    by_cases he : e1 = 0
    · subst he
      refine go (k := ?_)
      exact XE.mid (k + 1, y1) [0, 1, 2] ⟨⟨by simp only; omega, hsn⟩, by simp only; omega⟩ ⟨rfl, rfl, rfl, rfl, rfl, trivial⟩ rfl rfl
    · have hall : fmt cut ch a n x = (e1, y1) := by
        have h1 : wrs cut ch (fmtl a n) x = (e1, y1) := by
          rw [← List.take_append_drop (k + 1) (fmtl a n), wrs_stop _ _ _ (by rw [hsn]; exact he), hsn]
        unfold fmt
        rw [h1, if_pos he]
      rw [hall]
      refine go (k := ?_)
      refine XE.ret2 0 [0, 1, 2] rfl rfl rfl trivial ?_ rfl ?_
      · simp [he]
      · simp [he, X.pick]
  · obtain rfl : k = n := by omega
    rw [List.take_of_length_le (by rw [fmtl_len]; exact Nat.le_refl _)] at hy
    refine go (k := ?_)
    refine XL.call [0, 1, 2] [] rfl rfl rfl rfl rfl (fun _ w _ ho => lflush_ok bl b lv vc cut ch y w hyi.ok (by rw [hyi.len]; exact hm) (by omega) hl hw ho) fun _ _ => ?_
    have hall : fmt cut ch a k x = y.flush cut ch := by unfold fmt; rw [hy, if_neg (by simp)]
    rw [hall]
    obtain ⟨r, hr⟩ : ∃ r, r = y.flush cut ch := ⟨_, rfl⟩
    rw [← hr]
    obtain ⟨e1, y1⟩ := r
    simp only
    refine XL.nm (M := lnX bl b lv vc cut ch y1) ?_ (by simp [X.pick])
    by_cases he : e1 = 0
    · subst he
      refine go (k := ?_)
      refine XL.box (zs := rgCs bl ⟨a, k, 0, false⟩) rfl rfl rfl fun br => ?_
      refine go (k := ?_)
      exact XE.ret2 br [0, 1, 2, 3] rfl rfl rfl trivial rfl rfl rfl
    · refine go (k := ?_)
      refine XE.ret2 0 [0, 1, 2] rfl rfl rfl trivial ?_ rfl ?_
      · simp [he]
      · simp [he, X.pick]
end Go.X
