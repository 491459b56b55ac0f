/- LineKnown. -/
import Derived.Test.YtckelpenodabdaaDevL
import Derived.LaidEqlPtr
namespace Go.X
open Go Go.Proofs
theorem Quiet.nePS {P : Program} [T : Tab P] {r : Option Nat} {w0 : World} {B : List Nat} {n : Nat} {e : Env} {ds : List Deferred} {L : Heap} {x y : Operand} {ty t t' el : TypeId} {a : Addr} {s by' : Nat} {z : Value} (hx : ev e x = some (.pointer (some a))) (hy : ev e y = some (.pointer (some a))) (ht : T.und t = some (.pointer el))
    (hi : T.inf el = some (s, by', z)) : Quiet P r w0 B n ds L (.binOp .neq t x y t') ty e (.bool false) :=
  .neV hx hy (fun _ => rfl) fun w => by
    obtain ⟨i, hi1, _⟩ := T.hinf el s by' z hi
    show ((Op.equal t (.pointer (some a)) (.pointer (some a)) >>= fun b => pure (.bool !b) : Sem Value)).run P w = _
    rw [Sem.run_bind, run_equal (b := true) (fun d => by simp [Op.equalIn, run_underlying (T.hund _ _ ht), sizeOf, typeInfo, hi1, run_sameAddr_same])]; rfl
abbrev NoIs (x : Value) (w : World) : Prop := ∀ w', Kept [] w w' → Fx Try.prog 59 [x] w' (Pure w' (.bool false))
theorem NoIs.to {x : Value} {w w1 : World} (h : NoIs x w) (k : Kept [] w w1) : NoIs x w1 := fun w' k' => h w' (k.trans k' fun b hb => by cases hb)
theorem is_nil (w : World) : NoIs (.pointer none) w := fun w _ => by
  refine Fx.of (L0 := []) Try.func59 rfl (by kernel_rfl) Try.ntmps59 rfl (Owns.nil w) ?_
  refine go (k := ?_)
  exact XE.ret1 () [] rfl rfl trivial rfl rfl rfl
abbrev zln : List Value := [.pointer none, iv 0, .slice none 0 0, iv 0, .bool false]
theorem is_zero (bz : Nat) (t : TypeId) (fz : Nat × Nat) (w : World) (hb : w.heap[bz]? = some (.cells zln.toArray t fz)) : NoIs (ptr bz) w := fun w' hk => by
  have hb' : w'.heap[bz]? = some (.cells zln.toArray t fz) := (hk.same bz (Array.getElem?_eq_some_iff.1 hb).1 (by simp)).trans hb
  clear hb hk
  refine Fx.of (L0 := []) Try.func59 rfl (by kernel_rfl) Try.ntmps59 rfl (Owns.nil w') ?_
  have hB : bz ∉ ids ([] : Heap) := by simp [X.ids]
  have h0 : zln[0 + 0]? = some (.pointer none) := rfl
  refine go (k := ?_)
  exact XE.ret1 () [] rfl rfl trivial rfl rfl rfl
theorem holds_no (x : Value) (w : World) (h : NoIs x w) : Fx Try.prog 63 [x] w (Pure w (iv 1)) := by
  refine Fx.of (L0 := []) Try.func63 rfl (by kernel_rfl) Try.ntmps63 rfl (Owns.nil w) ?_
  refine go (k := ?_)
  refine XL.q (.call rfl rfl fun _ w' hs => h w' hs.kept) rfl ?_
  refine go (k := ?_)
  exact XE.ret1 () [] rfl rfl trivial rfl rfl rfl
theorem down_no (x : Value) (w : World) (h : NoIs x w) : Fx Try.prog 36 [x] w (Pure w (.bool true)) := by
  refine Fx.of (L0 := []) Try.func36 rfl (by kernel_rfl) Try.ntmps36 rfl (Owns.nil w) ?_
  refine go (k := ?_)
  refine XL.q (.call rfl rfl fun _ w' hs => holds_no x w' (h.to hs.kept)) rfl ?_
  refine go (k := ?_)
  exact XE.ret1 () [] rfl rfl trivial rfl rfl rfl
theorem acts_no (x : Value) (w : World) (h : NoIs x w) : Fx Try.prog 32 [x] w (Pure w (iv 0)) := by
  refine Fx.of (L0 := []) Try.func32 rfl (by kernel_rfl) Try.ntmps32 rfl (Owns.nil w) ?_
  refine go (k := ?_)
  refine XL.q (.call rfl rfl fun _ w' hs => h w' hs.kept) rfl ?_
  refine go (k := ?_)
  exact XE.ret1 () [] rfl rfl trivial rfl rfl rfl
theorem ldev_no (x : Value) (w : World) (h : NoIs x w) : Fx Try.prog 39 [x] w (Pure w (.pointer none)) := by
  refine Fx.of (L0 := []) Try.func39 rfl (by kernel_rfl) Try.ntmps39 rfl (Owns.nil w) ?_
  refine go (k := ?_)
  refine XL.q (.call rfl rfl fun _ w' hs => h w' hs.kept) rfl ?_
  refine go (k := ?_)
  exact XE.ret1 () [] rfl rfl trivial rfl rfl rfl
theorem blow_no (x : Value) (w : World) (h : NoIs x w) : Fx Try.prog 37 [x] w (Pure w (.tuple #[])) := by
  refine Fx.of (L0 := []) Try.func37 rfl (by kernel_rfl) Try.ntmps37 rfl (Owns.nil w) ?_
  refine go (k := ?_)
  refine XL.q (.call rfl rfl fun _ w' hs => holds_no x w' (h.to hs.kept)) rfl ?_
  refine go (k := ?_)
  exact XE.end0 () [] rfl trivial rfl rfl rfl
theorem lread_no (x : Value) (k : Int) (w : World) (h : NoIs x w) : Fx Try.prog 35 [x, iv k] w (Pure w (.tuple #[str [], iv 1])) := by
  refine Fx.of (L0 := []) Try.func35 rfl (by kernel_rfl) Try.ntmps35 rfl (Owns.nil w) ?_
  refine go (k := ?_)
  refine XL.q (.call rfl rfl fun _ w' hs => holds_no x w' (h.to hs.kept)) rfl ?_
  refine go (k := ?_)
  exact XE.ret2 () [] rfl rfl rfl trivial rfl rfl rfl
theorem act_no (x f : Value) (w : World) (h : NoIs x w) : Fx Try.prog 60 [x, f] w (Pure w (iv 1)) := by
  refine Fx.of (L0 := []) Try.func60 rfl (by kernel_rfl) Try.ntmps60 rfl (Owns.nil w) ?_
  refine go (k := ?_)
  refine XL.q (.call rfl rfl fun _ w' hs => holds_no x w' (h.to hs.kept)) rfl ?_
  refine go (k := ?_)
  exact XE.ret1 () [] rfl rfl trivial rfl rfl rfl
theorem lwrite_no (x : Option Addr) (k : Int) (s : List UInt8) (w : World) (h : NoIs (.pointer x) w) : Fx Try.prog 33 [.pointer x, iv k, str s] w (Pure w (iv 1)) := by
  refine Fx.of (L0 := []) Try.func33 rfl (by kernel_rfl) Try.ntmps33 rfl (Owns.nil w) ?_
  refine go (k := ?_)
  refine XL.box rfl rfl rfl fun b3 => ?_
  refine go (k := ?_)
  refine XL.box rfl rfl rfl fun b4 => ?_
  refine go (k := ?_)
  refine XL.box rfl rfl rfl fun b5 => ?_
  refine go (k := ?_)
  refine XL.q (.call rfl rfl fun _ w' hs => act_no (.pointer x) _ w' (h.to hs.kept)) rfl ?_
  refine go (k := ?_)
  exact XE.ret1 () [] rfl rfl trivial rfl rfl rfl
theorem lflush_no (x : Option Addr) (w : World) (h : NoIs (.pointer x) w) : Fx Try.prog 34 [.pointer x] w (Pure w (iv 1)) := by
  refine Fx.of (L0 := []) Try.func34 rfl (by kernel_rfl) Try.ntmps34 rfl (Owns.nil w) ?_
  refine go (k := ?_)
  refine XL.box rfl rfl rfl fun b3 => ?_
  refine go (k := ?_)
  refine XL.q (.call rfl rfl fun _ w' hs => act_no (.pointer x) _ w' (h.to hs.kept)) rfl ?_
  refine go (k := ?_)
  exact XE.ret1 () [] rfl rfl trivial rfl rfl rfl
theorem lnew_no (x v : Value) (cut : Int) (w : World) (h : ∀ w', Kept [] w w' → Fx Try.prog 20 [x] w' (Pure w' (iv 0))) : Fx Try.prog 31 [x, iv cut, v] w (Pure w (.pointer none)) := by
  refine Fx.of (L0 := []) Try.func31 rfl (by kernel_rfl) Try.ntmps31 rfl (Owns.nil w) ?_
  refine go (k := ?_)
  refine XL.q (.call rfl rfl fun _ w' hs => h w' hs.kept) rfl ?_
  refine go (k := ?_)
  exact XE.ret1 () [] rfl rfl trivial rfl rfl rfl
/-! ### the law -/
def lk1 : Int × Ln := Ln.write (-1) [] ln0 5 [97, 98]
def lk2 : Int × Ln := Ln.flush (-1) [] lk1.2
def lk3 : Int × Ln := Ln.write (-1) [] lk2.2 5 [120, 121]
def lk4 : Int × Ln := Ln.write (-1) [] lk3.2 256 []
def lkOk : Bool := decide (lk1.1 = 0 ∧ lk1.2.acts = 1 ∧ lk1.2.down = false ∧ lk2.1 = 0 ∧ lk2.2.acts = 2 ∧ lk2.2.down = false ∧ lk3.1 = 0 ∧ lk3.2.acts = 3 ∧ lk3.2.down = false ∧ lk4.1 = 2 ∧ lk4.2.acts = 4 ∧ lk4.2.down = false ∧ ((settled (Fc []) lk4.2.ds)[5]?.map fun s => s.read.take 2) = some [97, 98])
theorem lkOk_true : lkOk = true := by decide +kernel
theorem cbw3 : cbOk 65 [97, 98] [99, 100] = true := by decide +kernel
theorem cbw4 : cbOk (-1) [97, 98] [99, 100] = true := by decide +kernel
set_option maxHeartbeats 2000000 in
theorem lineKnown_gen (w : World) (D1 D2 D3 D4 D5 : List Slot) (s5 : Slot) (h1 : Ln.write (-1) [] ln0 5 [97, 98] = (0, ⟨1, false, D1⟩)) (h2 : Ln.flush (-1) [] ⟨1, false, D1⟩ = (0, ⟨2, false, D2⟩)) (h3 : Ln.write (-1) [] ⟨2, false, D2⟩ 5 [120, 121] = (0, ⟨3, false, D3⟩))
    (h4 : Ln.write (-1) [] ⟨3, false, D3⟩ 256 [] = (2, ⟨4, false, D4⟩)) (h5 : blown [] false D4 = D5) (h6 : D5[5]? = some s5) (h7 : s5.read.take 2 = [97, 98]) : Fx Try.prog 7 [] w (Pure w (.bool true)) := by
  have o1 : LOk ⟨1, false, D1⟩ 1 := by have h := ln0_ok.write (cut := -1) (ch := []) 5 [97, 98]; rw [h1] at h; exact h
  have o2 : LOk ⟨2, false, D2⟩ 2 := by have h := o1.flush (cut := -1) (ch := []); rw [h2] at h; exact h
  have o3 : LOk ⟨3, false, D3⟩ 3 := by have h := o2.write (cut := -1) (ch := []) 5 [120, 121]; rw [h3] at h; exact h
  have o4 : LOk ⟨4, false, D4⟩ 4 := by have h := o3.write (cut := -1) (ch := []) 256 []; rw [h4] at h; exact h
  have k5 : Oks D5 := by rw [← h5]; exact settled_ok o4.ok
  have l5 : D5.length = 256 := by rw [← h5]; exact (settled_len _ _).trans o4.len
  have hF : Ln.flush (-1) [] ⟨4, true, D5⟩ = (8, ⟨4, true, D5⟩) := by simp only [Ln.flush, Ln.act, if_pos trivial]
  have hnil : ∀ a ∈ ([] : List Int), -9223372036854775808 ≤ a ∧ a ≤ 9223372036854775807 := fun a ha => by cases ha
  refine Fx.of (L0 := []) Try.func7 rfl (by kernel_rfl) Try.ntmps7 rfl (Owns.nil w) ?_
  refine go (k := ?_)
  refine XL.call [] [] rfl rfl rfl rfl rfl (fun _ w _ _ => dnew_ok 256 w (by decide) (by decide)) fun x _ => ?_
  obtain ⟨b, lv⟩ := x
  refine go (k := ?_)
  refine XL.call [0] [] rfl rfl rfl rfl rfl (fun _ w1 hs ho => lnew_ok b lv (List.replicate 256 slot0) (-1) _ [] w1 (rep_ok 256) (by rw [List.length_replicate]; decide) (by decide) (fun w' hk' => rd0 w') ho) fun x _ => ?_
  obtain ⟨bl, vc⟩ := x
  refine XL.nm ?_
  refine go (k := ?_)
  refine XL.q (.call rfl rfl fun _ w _ => works_ok w) rfl ?_
  refine go (k := ?_)
  refine XL.q (.call rfl rfl fun _ w hs => down_at bl b (-1) vc 0 false _ _ w (hs.own.ok _ (.head _))) rfl ?_
  refine go (k := ?_)
  refine XL.call [0, 1, 2] [] rfl rfl rfl rfl rfl (fun _ w _ ho => lwrite_ok bl b lv vc (-1) [] ln0 5 [97, 98] w ln0_ok.ok (by have := ln0_ok.len; omega) (by have := ln0_ok.len; omega) (by decide) (by decide) hnil ho) fun _ _ => ?_
  rw [h1]
  refine XL.nm ?_
  refine go (k := ?_)
  refine XL.call [0, 1, 2] [] rfl rfl rfl rfl rfl (fun _ w _ ho => lflush_ok bl b lv vc (-1) [] ⟨1, false, D1⟩ w o1.ok (by have := o1.len; omega) (by have := o1.acts; omega) (by decide) hnil ho) fun _ _ => ?_
  rw [h2]
  refine XL.nm ?_
  refine go (k := ?_)
  refine XL.call [0, 1, 2] [] rfl rfl rfl rfl rfl (fun _ w _ ho => lwrite_ok bl b lv vc (-1) [] ⟨2, false, D2⟩ 5 [120, 121] w o2.ok (by have := o2.len; omega) (by have := o2.len; omega) (by have := o2.acts; omega) (by decide) hnil ho) fun _ _ => ?_
  rw [h3]
  refine XL.nm ?_
  refine go (k := ?_)
  refine XL.call [0, 1, 2] [] rfl rfl rfl rfl rfl (fun _ w _ ho => lwrite_ok bl b lv vc (-1) [] ⟨3, false, D3⟩ 256 [] w o3.ok (by have := o3.len; omega) (by have := o3.len; omega) (by have := o3.acts; omega) (by decide) hnil ho) fun _ _ => ?_
  rw [h4]
  refine XL.nm ?_
  refine go (k := ?_)
  refine XL.q (.call rfl rfl fun _ w hs => acts_at bl b (-1) vc 4 false _ _ w (hs.own.ok _ (.head _))) rfl ?_
  refine go (k := ?_)
  refine XL.call [0, 1, 2] [] rfl rfl rfl rfl rfl (fun _ w _ ho => blow_ok bl b lv vc (-1) [] 4 false D4 w o4.ok (by have h := o4.len; simp only at h; omega) (by decide) hnil ho) fun _ _ => ?_
  rw [h5]
  refine XL.nm ?_
  refine go (k := ?_)
  refine XL.call [0, 1, 2] [] rfl rfl rfl rfl rfl (fun _ w _ ho => blow_ok bl b lv vc (-1) [] 4 true D5 w k5 (by omega) (by decide) hnil ho) fun _ _ => ?_
  rw [show blown [] true D5 = D5 from rfl]
  refine XL.nm ?_
  clear h1 h2 h3 h4 h5 o1 o2 o3 o4
  refine go (k := ?_)
  refine XL.q (.call rfl rfl fun _ w hs => down_at bl b (-1) vc 4 true _ _ w (hs.own.ok _ (.head _))) rfl ?_
  refine go (k := ?_)
  refine XL.q (.call rfl rfl fun _ w hs => begins12_ok b lv D5 5 s5 [97, 98] w k5 h6 h7 (hs.own.grp (.tail _ (.tail _ (.head _))))) rfl ?_
  refine go (k := ?_)
  refine XL.call [0, 1, 2] [] rfl rfl rfl rfl rfl (fun _ w _ ho => lflush_ok bl b lv vc (-1) [] ⟨4, true, D5⟩ w k5 (by simp only; omega) (show 4 ≤ 1000000 by decide) (by decide) hnil ho) fun _ _ => ?_
  rw [hF]
  refine XL.nm ?_
  refine go (k := ?_)
  refine XL.q (.call rfl rfl fun _ w hs => acts_at bl b (-1) vc 4 true _ _ w (hs.own.ok _ (.head _))) rfl ?_
  refine go (k := ?_)
  refine XL.q (.call rfl rfl fun _ w hs => ldev_at bl b (-1) vc 4 true _ _ w (hs.own.ok _ (.head _))) rfl ?_
  refine go (k := ?_)
  refine XL.q (.nePS rfl rfl rfl rfl) rfl ?_
  refine go (k := ?_)
  refine XL.box rfl rfl rfl fun bz => ?_
  refine go (k := ?_)
  refine XL.q (.call rfl rfl fun _ w _ => blow_no _ w (is_nil w)) rfl ?_
  refine go (k := ?_)
  refine XL.q (.call rfl rfl fun _ w hs => blow_no _ w (is_zero bz _ _ w (hs.own.ok _ (.head _)))) rfl ?_
  refine go (k := ?_)
  refine XL.q (.call rfl rfl fun _ w _ => lread_no _ 5 w (is_nil w)) rfl ?_
  refine go (k := ?_)
  refine XL.q (.call rfl rfl fun _ w _ => cutBy_ok 65 [97, 98] [99, 100] w (by decide) cbw3) rfl ?_
  refine go (k := ?_)
  refine XL.q (.call rfl rfl fun _ w _ => cutBy_ok (-1) [97, 98] [99, 100] w (by decide) cbw4) rfl ?_
  refine go (k := ?_)
  refine XL.q (.call rfl rfl fun _ w _ => lnew_no (.pointer none) _ 0 w fun w' _ => blocks_nil w') rfl ?_
  refine go (k := ?_)
  refine XL.box rfl rfl rfl fun bd => ?_
  refine go (k := ?_)
  refine XL.q (.call rfl rfl fun _ w hs => lnew_no (ptr bd) _ 0 w fun w' hk => blocks_at bd none 0 0 _ _ w' ((hk.same bd (Array.getElem?_eq_some_iff.1 (hs.own.ok _ (.head _))).1 (by simp)).trans (hs.own.ok _ (.head _)))) rfl ?_
  refine go (k := ?_)
  refine XL.q (.call rfl rfl fun _ w _ => lwrite_no none 5 [] w (is_nil w)) rfl ?_
  refine go (k := ?_)
  refine XL.q (.call rfl rfl fun _ w hs => lflush_no _ w (is_zero bz _ _ w (hs.own.ok _ (.tail _ (.head _))))) rfl ?_
  refine go (k := ?_)
  refine XL.q (.call rfl rfl fun _ w _ => down_no _ w (is_nil w)) rfl ?_
  refine go (k := ?_)
  refine XL.q (.call rfl rfl fun _ w hs => down_no _ w (is_zero bz _ _ w (hs.own.ok _ (.tail _ (.head _))))) rfl ?_
  refine go (k := ?_)
  refine XL.q (.call rfl rfl fun _ w _ => acts_no _ w (is_nil w)) rfl ?_
  refine go (k := ?_)
  refine XL.q (.call rfl rfl fun _ w hs => ldev_no _ w (is_zero bz _ _ w (hs.own.ok _ (.tail _ (.head _))))) rfl ?_
  refine go (k := ?_)
  refine XL.q (.call rfl rfl fun _ w _ => works_ok w) rfl ?_
  refine go (k := ?_)
  exact XE.ret1 () [] rfl rfl trivial rfl rfl rfl
theorem blown_false (ch : List Int) (ds : List Slot) : blown ch false ds = settled (Fc ch) ds := rfl
theorem lineKnown_ok (w : World) : Fx Try.prog 7 [] w (Pure w (.bool true)) := by
  obtain ⟨a1, a2, a3, b1, b2, b3, c1, c2, c3, d1, d2, d3, f⟩ := of_decide_eq_true lkOk_true
  obtain ⟨s5, h5, t5⟩ := Option.map_eq_some_iff.1 f
  have e1 : lk1 = (0, ⟨1, false, lk1.2.ds⟩) := by rw [← a1, ← a2, ← a3]
  have e2 : lk2 = (0, ⟨2, false, lk2.2.ds⟩) := by rw [← b1, ← b2, ← b3]
  have e3 : lk3 = (0, ⟨3, false, lk3.2.ds⟩) := by rw [← c1, ← c2, ← c3]
  have e4 : lk4 = (2, ⟨4, false, lk4.2.ds⟩) := by rw [← d1, ← d2, ← d3]
  refine lineKnown_gen w lk1.2.ds lk2.2.ds lk3.2.ds lk4.2.ds (settled (Fc []) lk4.2.ds) s5 e1 ?_ ?_ ?_ (blown_false [] _) h5 t5
  · have p : lk1.2 = ⟨1, false, lk1.2.ds⟩ := congrArg Prod.snd e1
    rw [← p]; exact e2
  · have p : lk2.2 = ⟨2, false, lk2.2.ds⟩ := congrArg Prod.snd e2
    rw [← p]; exact e3
  · have p : lk3.2 = ⟨3, false, lk3.2.ds⟩ := congrArg Prod.snd e3
    rw [← p]; exact e4
end Go.X
