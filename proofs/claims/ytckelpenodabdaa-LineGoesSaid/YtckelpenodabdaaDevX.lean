/- LineGoes: the reference of package line (revertref12). -/
import Derived.Test.YtckelpenodabdaaDevW
namespace Go.X
open Go Go.Proofs Go.RowKit
abbrev rlCs (bd : Nat) (cut : Int) (cv : Value) (acts : Nat) (down : Bool) : List Value := [ptr bd, iv cut, cv, iv acts, .bool down]
abbrev rlG (br bd : Nat) (fv rv cv : Value) (cut : Int) (x : Ln) : Heap := [.blk br (rlCs bd cut cv x.acts x.down) 76, rdE bd fv rv x.ds]
theorem rdread_ok (bd : Nat) (fv rv : Value) (ds : List Slot) (k : Int) (w : World) (hd : DInv ds) (hn : 0 < ds.length) (hn2 : ds.length ≤ 100000) (ho : Owns w [rdE bd fv rv ds]) :
    Fx Try.prog 56 [ptr bd, iv k] w (Pure w (.tuple #[str (drd ds k).1, iv (drd ds k).2])) := by
  have h2 := ho.grp (.head _)
  have hfl : (frl ds 0).length ≤ 100000 := by have := frl_len_le ds; omega
  by_cases hout : k < 0 ∨ (ds.length : Int) ≤ k
  · have e : drd ds k = ([], 2) := by unfold drd; rw [if_neg (by omega), if_pos hout]
    rw [e]
    exact rread_out bd fv rv _ _ k w (by rw [List.length_map]; exact hout) h2
  · obtain ⟨j, rfl⟩ : ∃ j : Nat, k = j := ⟨k.toNat, by omega⟩
    obtain ⟨s, hs⟩ : ∃ s, ds[j]? = some s := ⟨_, List.getElem?_eq_getElem (by omega)⟩
    have e : drd ds j = (s.read, 0) := by
      unfold drd; rw [if_neg (by omega), if_neg hout, Int.toNat_natCast, List.getD_eq_getElem?_getD, hs]; rfl
    rw [e]
    have := rread_ok bd fv rv (ds.map (·.firm)) (frl ds 0) j w hfl (by rw [List.length_map]; omega) h2
    rw [frl_rrd ds j s hd hs] at this
    exact this
section
variable (br bd : Nat) (fv rv cv : Value) (cut : Int) (ch : List Int) (x : Ln)
theorem rodd_at (acts : Nat) (down : Bool) (t : TypeId) (fz : Nat × Nat) (w : World) (hb : w.heap[br]? = some (.cells (rlCs bd cut cv acts down).toArray t fz)) (hv : RowAt w cv 1 ch.length (ivs ch)) (hl : ch.length ≤ 1000000)
    (hw : ∀ a ∈ ch, -9223372036854775808 ≤ a ∧ a ≤ 9223372036854775807) : Fx Try.prog 77 [ptr br] w (Pure w (.bool (oddc ch))) := by
  refine Fx.of (L0 := []) Try.func77 rfl (by kernel_rfl) Try.ntmps77 rfl (Owns.nil w) ?_
  have hB : br ∉ ids ([] : Heap) := by simp [X.ids]
  have hr : ∀ L : Heap, Rd w (ids []) L cv 1 ch.length (ivs ch) := fun L => .old hv (fun _ _ _ => by simp [X.ids])
  refine XC.rdv (hr _) fun ao m hva _ _ haa => ?_
  subst hva
  have h2 : (rlCs bd cut (.slice ao ch.length m) acts down)[0 + 2]? = some (.slice ao ch.length m) := rfl
  cases ch with
  | nil =>
    refine go (k := ?_)
    exact XE.ret1 () [] rfl rfl trivial rfl rfl rfl
  | cons c ch =>
    obtain ⟨b1, o1, rfl⟩ : ∃ b off, ao = some ⟨b, off, none⟩ := haa.resolve_left (by simp)
    have hlen : 0 < (c :: ch).length := by simp
    refine go (k := ?_)
    refine XL.q (.ldRd (j := 0 * 1) rfl rfl rfl (hr _) (by omega) rfl) rfl ?_
    have hcw := hw c (.head _)
    refine go (k := ?_)
    exact XE.ret1 () [] rfl rfl trivial rfl rfl rfl
theorem rcounted_ok (hx : x.acts ≤ 1000000) (w : World) (ho : Owns w (rlG br bd fv rv cv cut x)) :
    Fx Try.prog 76 [ptr br] w (Ret w (rlG br bd fv rv cv cut x) (fun _ : Unit => .bool (decide ((x.acts : Int) = cut))) (fun _ => rlG br bd fv rv cv cut ⟨x.acts + 1, x.down, x.ds⟩) (fun _ => True)) := by
  obtain ⟨acts, down, ds⟩ := x
  refine Fx.of Try.func76 rfl (by kernel_rfl) Try.ntmps76 rfl ho ?_
  simp only at hx
  have h3 : (rlCs bd cut cv acts down)[0 + 3]? = some (iv acts) := rfl
  have h1 : (rlCs bd cut cv (acts + 1) down)[0 + 1]? = some (iv cut) := rfl
  have sp : SplL (rlCs bd cut cv acts down) (0 + 3) [iv ((acts : Int) + 1)] (rlCs bd cut cv (acts + 1) down) := ⟨by simp, rfl⟩
  refine go (k := ?_)
  exact XE.ret1 () [0, 1] rfl rfl trivial rfl rfl rfl
theorem rblow_ok (hk : Oks x.ds) (hn : x.ds.length ≤ 100000) (hl : ch.length ≤ 1000000) (hw : ∀ a ∈ ch, -9223372036854775808 ≤ a ∧ a ≤ 9223372036854775807) (w : World)
    (hv : ∀ w', Kept (ids (rlG br bd fv rv cv cut x)) w w' → RowAt w' cv 1 ch.length (ivs ch)) (ho : Owns w (rlG br bd fv rv cv cut x)) :
    Fx Try.prog 67 [ptr br] w (Ret w (rlG br bd fv rv cv cut x) (fun _ : Value => .tuple #[]) (fun rv' => rlG br bd fv rv' cv cut ⟨x.acts, true, blown ch x.down x.ds⟩) (fun _ => True)) := by
  obtain ⟨acts, down, ds⟩ := x
  obtain ⟨ao, m, rfl, _, _⟩ := hv w (.refl _ _)
  refine Fx.of Try.func67 rfl (by kernel_rfl) Try.ntmps67 rfl ho ?_
  cases down with
  | true =>
    have h4 : (rlCs bd cut (.slice ao ch.length m) acts true)[0 + 4]? = some (.bool true) := rfl
    refine go (k := ?_)
    exact XE.ret0 rv [0, 1] rfl trivial rfl rfl rfl
  | false =>
    have h4 : (rlCs bd cut (.slice ao ch.length m) acts false)[0 + 4]? = some (.bool false) := rfl
    have h0 : (rlCs bd cut (.slice ao ch.length m) acts true)[0 + 0]? = some (ptr bd) := rfl
    have h2 : (rlCs bd cut (.slice ao ch.length m) acts true)[0 + 2]? = some (.slice ao ch.length m) := rfl
    have sp : SplL (rlCs bd cut (.slice ao ch.length m) acts false) (0 + 4) [.bool true] (rlCs bd cut (.slice ao ch.length m) acts true) := ⟨by simp, rfl⟩
    refine go (k := ?_)
    refine XL.call [1] [0] rfl rfl rfl rfl rfl (fun _ w1 hs ho => rdcrash_ok bd fv rv _ ds ch w1 hk hn (fun w' hk' => hv w' (hs.kept.trans hk' fun q hq => hs.wr q (ids_pick_sub (L := [_, _]) (is := [1]) hq))) hl hw ho) fun _ _ => ?_
    refine XL.nm ?_
    refine go (k := ?_)
    exact XE.end0 (.slice none 0 0) [1, 0] rfl trivial rfl rfl rfl
theorem rlread_ok (k : Int) (hd : DInv x.ds) (hn0 : 0 < x.ds.length) (hn : x.ds.length ≤ 100000) (w : World) (ho : Owns w (rlG br bd fv rv cv cut x)) :
    Fx Try.prog 66 [ptr br, iv k] w (Pure w (.tuple #[str (x.read k).1, iv (x.read k).2])) := by
  obtain ⟨acts, down, ds⟩ := x
  simp only at hd hn0 hn ho ⊢
  have hown : ∀ w', Kept [] w w' → Owns w' [rdE bd fv rv ds] := fun w' k => ((ho.of_kept k (fun _ _ h => by cases h)).pick (is := [1]) (by decide))
  have hb : w.heap[br]? = some (.cells (rlCs bd cut cv acts down).toArray _ (0, 0)) := ho.ok _ (.head _)
  have hB : br ∉ ids ([] : Heap) := by simp [X.ids]
  have h0 : (rlCs bd cut cv acts down)[0 + 0]? = some (ptr bd) := rfl
  have h4 : (rlCs bd cut cv acts down)[0 + 4]? = some (.bool down) := rfl
  refine Fx.of (L0 := []) Try.func66 rfl (by kernel_rfl) Try.ntmps66 rfl (Owns.nil w) ?_
  cases down with
  | true =>
    refine go (k := ?_)
    exact XE.ret2 () [] rfl rfl rfl trivial rfl rfl rfl
  | false =>
    refine go (k := ?_)
    refine XL.q (.call rfl rfl fun _ w' hs => rdread_ok bd fv rv ds k w' hd hn0 hn (hown w' hs.kept)) rfl ?_
    refine go (k := ?_)
    exact XE.ret2 () [] rfl rfl rfl trivial rfl rfl rfl
theorem rlwrite_ok (k : Int) (s : List UInt8) (hk : Oks x.ds) (hn0 : 0 < x.ds.length) (hn : x.ds.length ≤ 100000) (ha : x.acts ≤ 1000000) (hl : ch.length ≤ 1000000) (hw : ∀ a ∈ ch, -9223372036854775808 ≤ a ∧ a ≤ 9223372036854775807) (w : World)
    (hv : ∀ w', Kept (ids (rlG br bd fv rv cv cut x)) w w' → RowAt w' cv 1 ch.length (ivs ch)) (ho : Owns w (rlG br bd fv rv cv cut x)) :
    Fx Try.prog 64 [ptr br, iv k, str s] w (Ret w (rlG br bd fv rv cv cut x) (fun _ : Value => iv (x.write cut ch k s).1) (fun rv' => rlG br bd fv rv' cv cut (x.write cut ch k s).2) (fun _ => True)) := by
  obtain ⟨acts, down, ds⟩ := x
  simp only at hk hn0 hn ha
  refine Fx.of Try.func64 rfl (by kernel_rfl) Try.ntmps64 rfl ho ?_
  cases down with
  | true =>
    have h4 : (rlCs bd cut cv acts true)[0 + 4]? = some (.bool true) := rfl
    refine go (k := ?_)
    exact XE.ret1 rv [0, 1] rfl rfl trivial rfl rfl rfl
  | false =>
    have h4 : (rlCs bd cut cv acts false)[0 + 4]? = some (.bool false) := rfl
    have h0 : (rlCs bd cut cv (acts + 1) false)[0 + 0]? = some (ptr bd) := rfl
    refine go (k := ?_)
    refine XL.call [0, 1] [] rfl rfl rfl rfl rfl (fun _ w1 _ ho => rcounted_ok br bd fv rv cv cut ⟨acts, false, ds⟩ ha w1 ho) fun _ _ => ?_
    refine XL.nm ?_
    by_cases hc : (acts : Int) = cut
    · have hA : Ln.write cut ch ⟨acts, false, ds⟩ k s = (8, ⟨acts + 1, true, settled (Fc ch) (if oddc ch = true then (dwr ds k s).2 else ds)⟩) := by unfold Ln.write Ln.act; simp [hc]
      rw [hA]
      refine go (k := ?_)
      refine XL.q (.call rfl rfl fun _ w1 hs => rodd_at br bd cv cut ch (acts + 1) false _ _ w1 (hs.own.ok _ (.head _)) (hv w1 hs.kept) hl hw) rfl ?_
      cases hodd : oddc ch with
      | true =>
        refine go (k := ?_)
        refine XL.call [1] [0] rfl rfl rfl rfl rfl (fun _ w1 _ ho => rdwrite_ok bd fv rv ds k s w1 hn0 hn ho) fun rv1 _ => ?_
        refine XL.nm ?_
        refine go (k := ?_)
        refine XL.call [1, 0] [] rfl rfl rfl rfl rfl (fun _ w1 hs ho => rblow_ok br bd fv rv1 cv cut ch ⟨acts + 1, false, (dwr ds k s).2⟩ (dwr_ok hk k s) (by rw [dwr_len]; exact hn) hl hw w1 (fun w' hk' => hv w' (hs.keptTo hk' (fun q hq => ids_pick_sub (L := [_, _]) (is := [1, 0]) hq))) ho) fun rv2 _ => ?_
        refine XL.nm ?_
        refine go (k := ?_)
        exact XE.ret1 rv2 [0, 1] rfl rfl trivial rfl rfl rfl
      | false =>
        refine go (k := ?_)
        refine XL.call [0, 1] [] rfl rfl rfl rfl rfl (fun _ w1 hs ho => rblow_ok br bd fv rv cv cut ch ⟨acts + 1, false, ds⟩ hk hn hl hw w1 (fun w' hk' => hv w' (hs.keptTo hk' (fun q hq => hq))) ho) fun rv2 _ => ?_
        refine XL.nm ?_
        refine go (k := ?_)
        exact XE.ret1 rv2 [0, 1] rfl rfl trivial rfl rfl rfl
    · have hA : Ln.write cut ch ⟨acts, false, ds⟩ k s = ((dwr ds k s).1, ⟨acts + 1, false, (dwr ds k s).2⟩) := by unfold Ln.write Ln.act; simp [hc]
      rw [hA]
      refine go (k := ?_)
      refine XL.call [1] [0] rfl rfl rfl rfl rfl (fun _ w1 _ ho => rdwrite_ok bd fv rv ds k s w1 hn0 hn ho) fun rv1 _ => ?_
      refine XL.nm ?_
      refine go (k := ?_)
      exact XE.ret1 rv1 [1, 0] rfl rfl trivial rfl rfl rfl
theorem rlflush_ok (hk : Oks x.ds) (hn : x.ds.length ≤ 100000) (ha : x.acts ≤ 1000000) (hl : ch.length ≤ 1000000) (hw : ∀ a ∈ ch, -9223372036854775808 ≤ a ∧ a ≤ 9223372036854775807) (w : World)
    (hv : ∀ w', Kept (ids (rlG br bd fv rv cv cut x)) w w' → RowAt w' cv 1 ch.length (ivs ch)) (ho : Owns w (rlG br bd fv rv cv cut x)) :
    Fx Try.prog 65 [ptr br] w (Ret w (rlG br bd fv rv cv cut x) (fun _ : Value => iv (x.flush cut ch).1) (fun rv' => rlG br bd fv rv' cv cut (x.flush cut ch).2) (fun _ => True)) := by
  obtain ⟨acts, down, ds⟩ := x
  simp only at hk hn ha
  refine Fx.of Try.func65 rfl (by kernel_rfl) Try.ntmps65 rfl ho ?_
  cases down with
  | true =>
    have h4 : (rlCs bd cut cv acts true)[0 + 4]? = some (.bool true) := rfl
    refine go (k := ?_)
    exact XE.ret1 rv [0, 1] rfl rfl trivial rfl rfl rfl
  | false =>
    have h4 : (rlCs bd cut cv acts false)[0 + 4]? = some (.bool false) := rfl
    have h0 : (rlCs bd cut cv (acts + 1) false)[0 + 0]? = some (ptr bd) := rfl
    refine go (k := ?_)
    refine XL.call [0, 1] [] rfl rfl rfl rfl rfl (fun _ w1 _ ho => rcounted_ok br bd fv rv cv cut ⟨acts, false, ds⟩ ha w1 ho) fun _ _ => ?_
    refine XL.nm ?_
    by_cases hc : (acts : Int) = cut
    · have hA : Ln.flush cut ch ⟨acts, false, ds⟩ = (8, ⟨acts + 1, true, settled (Fc ch) (if oddc ch = true then settled F64 ds else ds)⟩) := by unfold Ln.flush Ln.act; simp [hc]
      rw [hA]
      refine go (k := ?_)
      refine XL.q (.call rfl rfl fun _ w1 hs => rodd_at br bd cv cut ch (acts + 1) false _ _ w1 (hs.own.ok _ (.head _)) (hv w1 hs.kept) hl hw) rfl ?_
      cases hodd : oddc ch with
      | true =>
        refine go (k := ?_)
        refine XL.call [1] [0] rfl rfl rfl rfl rfl (fun _ w1 _ ho => rdflush_ok bd fv rv ds w1 hk hn ho) fun _ _ => ?_
        refine XL.nm ?_
        refine go (k := ?_)
        refine XL.call [1, 0] [] rfl rfl rfl rfl rfl (fun _ w1 hs ho => rblow_ok br bd fv (.slice none 0 0) cv cut ch ⟨acts + 1, false, settled F64 ds⟩ (settled_ok hk) (by rw [settled_len]; exact hn) hl hw w1 (fun w' hk' => hv w' (hs.keptTo hk' (fun q hq => ids_pick_sub (L := [_, _]) (is := [1, 0]) hq))) ho) fun rv2 _ => ?_
        refine XL.nm ?_
        refine go (k := ?_)
        exact XE.ret1 rv2 [0, 1] rfl rfl trivial rfl rfl rfl
      | false =>
        refine go (k := ?_)
        refine XL.call [0, 1] [] rfl rfl rfl rfl rfl (fun _ w1 hs ho => rblow_ok br bd fv rv cv cut ch ⟨acts + 1, false, ds⟩ hk hn hl hw w1 (fun w' hk' => hv w' (hs.keptTo hk' (fun q hq => hq))) ho) fun rv2 _ => ?_
        refine XL.nm ?_
        refine go (k := ?_)
        exact XE.ret1 rv2 [0, 1] rfl rfl trivial rfl rfl rfl
    · have hA : Ln.flush cut ch ⟨acts, false, ds⟩ = (0, ⟨acts + 1, false, settled F64 ds⟩) := by unfold Ln.flush Ln.act; simp [hc]
      rw [hA]
      refine go (k := ?_)
      refine XL.call [1] [0] rfl rfl rfl rfl rfl (fun _ w1 _ ho => rdflush_ok bd fv rv ds w1 hk hn ho) fun _ _ => ?_
      refine XL.nm ?_
      refine go (k := ?_)
      exact XE.ret1 (.slice none 0 0) [1, 0] rfl rfl trivial rfl rfl rfl
end
/-! ### one, alike -/
/-- a call of a line, by the act -/
def lact1 (cut : Int) (ch : List Int) (x : Ln) (a : LAct) : Ln := if a.what % 5 < 2 then (x.write cut ch a.at_ a.s).2 else if a.what % 5 = 2 then (x.flush cut ch).2 else if a.what % 5 = 3 then x else if a.at_.tmod 7 = 0 then ⟨x.acts, true, blown ch x.down x.ds⟩ else x
theorem cells3 {l : List LAct} {k : Nat} {a : LAct} (h : l[k]? = some a) : X.cut (lacells l) (k * 3) 3 = some (lacell a) := by
  obtain ⟨c1, c2, c3⟩ := lacells_at h
  have hlen : k * 3 + 2 < (lacells l).length := (List.getElem?_eq_some_iff.1 c3).1
  rw [cut_some (by omega)]
  congr 1
  apply List.ext_getElem?
  intro j
  rw [List.getElem?_take]
  by_cases hj : j < 3
  · rw [if_pos hj, List.getElem?_drop]
    rcases (by omega : j = 0 ∨ j = 1 ∨ j = 2) with rfl | rfl | rfl
    · exact c1
    · exact c2
    · exact c3
  · rw [if_neg hj, List.getElem?_eq_none (by simp [lacell]; omega)]
section
variable (bl b br bd : Nat) (lv vc fv rv cv : Value) (cut : Int) (ch : List Int) (x : Ln)
abbrev bothG (bl b br bd : Nat) (lv vc fv rv cv : Value) (cut : Int) (ch : List Int) (x : Ln) : Heap := lnX bl b lv vc cut ch x ++ rlG br bd fv rv cv cut x
set_option maxHeartbeats 1000000 in
theorem lone_ok (a : LAct) (hk : Oks x.ds) (hd : DInv x.ds) (hn0 : 0 < x.ds.length) (hn : x.ds.length ≤ 100000) (ha : x.acts ≤ 1000000) (ha1 : 0 ≤ a.what ∧ a.what ≤ 255) (_ha2 : -9223372036854775808 ≤ a.at_ ∧ a.at_ ≤ 9223372036854775807) (hl : ch.length ≤ 1000000) (hw : ∀ a ∈ ch, -9223372036854775808 ≤ a ∧ a ≤ 9223372036854775807) (w : World)
    (hv : ∀ w', Kept (ids (bothG bl b br bd lv vc fv rv cv cut ch x)) w w' → RowAt w' cv 1 ch.length (ivs ch)) (ho : Owns w (bothG bl b br bd lv vc fv rv cv cut ch x)) :
    Fx Try.prog 42 [ptr bl, ptr br, .agg (lacell a).toArray] w (Ret w (bothG bl b br bd lv vc fv rv cv cut ch x) (fun _ : Value => .bool true) (fun rv' => bothG bl b br bd lv vc fv rv' cv cut ch (lact1 cut ch x a)) (fun _ => True)) := by
  refine Fx.of Try.func42 rfl (by kernel_rfl) Try.ntmps42 rfl ho ?_
  have hrest : ∀ {a1 : Go.Act} {w1 : World} {e1 : Env} {L1 : Heap} {n1 : Nat} {C : List Nat} {w' : World}, Sit w (ids (bothG bl b br bd lv vc fv rv cv cut ch x)) n1 e1 [] L1 a1 w1 → Kept C w1 w' → (∀ q ∈ C, q ∈ ids L1) → RowAt w' cv 1 ch.length (ivs ch) := fun hs hk' hC => hv _ (hs.keptTo hk' hC)
  refine go (k := ?_)
  refine XL.box (zs := lacell a) rfl rfl rfl fun ba => ?_
  have c0 : (lacell a)[0 + 0]? = some (.int .u8 a.what) := rfl
  have c1 : (lacell a)[0 + 1]? = some (iv a.at_) := rfl
  have c2 : (lacell a)[0 + 2]? = some (str a.s) := rfl
  by_cases w2 : a.what % 5 < 2
  · have e : lact1 cut ch x a = (x.write cut ch a.at_ a.s).2 := by unfold lact1; rw [if_pos w2]
    rw [e]
    by_cases w0 : a.what % 5 = 0
    · refine go (k := ?_)
      refine XL.call [1, 2, 3] [4, 5, 0] rfl rfl rfl rfl rfl (fun _ w _ ho => lwrite_ok bl b lv vc cut ch x a.at_ a.s w hk hn0 hn ha hl hw ho) fun _ _ => ?_
      refine XL.nm ?_
      refine go (k := ?_)
      refine XL.call [3, 4] [0, 1, 2, 5] rfl rfl rfl rfl rfl (fun _ w1 hs ho => rlwrite_ok br bd fv rv cv cut ch x a.at_ a.s hk hn0 hn ha hl hw w1 (fun w' hk' => hrest hs hk' (fun q hq => ids_pick_sub (L := [_, _, _, _, _, _]) (is := [3, 4]) hq)) ho) fun rv' _ => ?_
      refine XL.nm ?_
      refine go (k := ?_)
      exact XE.ret1 rv' [2, 3, 4, 0, 1] rfl rfl trivial (by rw [decide_eq_true rfl]) rfl rfl
    · have w1' : a.what % 5 = 1 := by omega
      refine go (k := ?_)
      refine XL.call [1, 2, 3] [4, 5, 0] rfl rfl rfl rfl rfl (fun _ w _ ho => lwrite_ok bl b lv vc cut ch x a.at_ a.s w hk hn0 hn ha hl hw ho) fun _ _ => ?_
      refine XL.nm ?_
      refine go (k := ?_)
      refine XL.call [3, 4] [0, 1, 2, 5] rfl rfl rfl rfl rfl (fun _ w1 hs ho => rlwrite_ok br bd fv rv cv cut ch x a.at_ a.s hk hn0 hn ha hl hw w1 (fun w' hk' => hrest hs hk' (fun q hq => ids_pick_sub (L := [_, _, _, _, _, _]) (is := [3, 4]) hq)) ho) fun rv' _ => ?_
      refine XL.nm ?_
      refine go (k := ?_)
      exact XE.ret1 rv' [2, 3, 4, 0, 1] rfl rfl trivial (by rw [decide_eq_true rfl]) rfl rfl
  by_cases w2' : a.what % 5 = 2
  · have e : lact1 cut ch x a = (x.flush cut ch).2 := by unfold lact1; rw [if_neg w2, if_pos w2']
    rw [e]
    refine go (k := ?_)
    refine XL.call [1, 2, 3] [4, 5, 0] rfl rfl rfl rfl rfl (fun _ w _ ho => lflush_ok bl b lv vc cut ch x w hk hn ha hl hw ho) fun _ _ => ?_
    refine XL.nm ?_
    refine go (k := ?_)
    refine XL.call [3, 4] [0, 1, 2, 5] rfl rfl rfl rfl rfl (fun _ w1 hs ho => rlflush_ok br bd fv rv cv cut ch x hk hn ha hl hw w1 (fun w' hk' => hrest hs hk' (fun q hq => ids_pick_sub (L := [_, _, _, _, _, _]) (is := [3, 4]) hq)) ho) fun rv' _ => ?_
    refine XL.nm ?_
    refine go (k := ?_)
    exact XE.ret1 rv' [2, 3, 4, 0, 1] rfl rfl trivial (by rw [decide_eq_true rfl]) rfl rfl
  by_cases w3 : a.what % 5 = 3
  · have e : lact1 cut ch x a = x := by unfold lact1; rw [if_neg w2, if_neg w2', if_pos w3]
    rw [e]
    refine go (k := ?_)
    refine XL.q (.call rfl rfl fun _ w hs => lread_ok bl b lv vc cut ch x a.at_ w hk hn0 (hs.own.pick (is := [1, 2, 3]) (by decide))) rfl ?_
    refine go (k := ?_)
    refine XL.q (.call rfl rfl fun _ w hs => rlread_ok br bd fv rv cv cut x a.at_ hd hn0 hn w (hs.own.pick (is := [4, 5]) (by decide))) rfl ?_
    refine go (k := ?_)
    exact XE.ret1 rv [1, 2, 3, 4, 5] rfl rfl trivial (by rw [decide_eq_true rfl]) rfl rfl
  · by_cases w7 : a.at_.tmod 7 = 0
    · have e : lact1 cut ch x a = ⟨x.acts, true, blown ch x.down x.ds⟩ := by unfold lact1; rw [if_neg w2, if_neg w2', if_neg w3, if_pos w7]
      rw [e]
      refine go (k := ?_)
      refine XL.call [1, 2, 3] [4, 5, 0] rfl rfl rfl rfl rfl (fun _ w _ ho => blow_ok bl b lv vc cut ch x.acts x.down x.ds w hk hn hl hw ho) fun _ _ => ?_
      refine XL.nm ?_
      refine go (k := ?_)
      refine XL.call [3, 4] [0, 1, 2, 5] rfl rfl rfl rfl rfl (fun _ w1 hs ho => rblow_ok br bd fv rv cv cut ch x hk hn hl hw w1 (fun w' hk' => hrest hs hk' (fun q hq => ids_pick_sub (L := [_, _, _, _, _, _]) (is := [3, 4]) hq)) ho) fun rv' _ => ?_
      refine XL.nm ?_
      refine go (k := ?_)
      exact XE.ret1 rv' [2, 3, 4, 0, 1] rfl rfl trivial rfl rfl rfl
    · have e : lact1 cut ch x a = x := by unfold lact1; rw [if_neg w2, if_neg w2', if_neg w3, if_neg w7]
      rw [e]
      refine go (k := ?_)
      exact XE.ret1 rv [1, 2, 3, 4, 5] rfl rfl trivial rfl rfl rfl
end
/-- the length of a slice that may be read -/
theorem Quiet.lenRd {P : Program} {r : Option Nat} {w0 : World} {B : List Nat} {n : Nat} {ds : List Deferred} {L : Heap} {e : Env} [T : Tab P] {x : Operand} {ty t el : TypeId} {v : Value} {k m : Nat} {xs : List Value} (hx : ev e x = some v) (ht : T.und t = some (.slice el)) (hr : Rd w0 B L v k m xs) :
    Quiet P r w0 B n ds L (.call ⟨.builtin .len, #[x], #[t]⟩) ty e (.int .i64 (m : Int)) :=
  .run (by simp) fun ρ d pos af g w hρ ho hk => by
    obtain ⟨ao, q, rfl, _, _, _⟩ := hr w ho hk
    have e1 : (#[x] : Array Operand).map ρ = #[.slice ao m q] := by
      have := hρ x (by simp [Op.operands, Call.operands]) _ hx
      simp [this]
    simp only [execOp, resolve, e1, Sem.run_bind, Sem.run_pure, Result.andThen, invoke]
    rw [blt_run (P := P) (v := .int .i64 (m : Int)) (w' := w) rfl (by simp [Builtin.len_, Sem.run_bind, run_und ht, Result.andThen, goInt])]
theorem RowAt.at3 {w : World} {b off m c c' k : Nat} {l : List LAct} {a : LAct} (h : RowAt w (.slice (some ⟨b, off, none⟩) m c) 3 l.length (lacells l)) (ha : l[k]? = some a) (hc : 1 ≤ c') : RowAt w (.slice (some ⟨b, off + k * 3, none⟩) 1 c') 3 1 (lacells [a]) := by
  obtain ⟨ao, q, hv, h1, h2, h3⟩ := h
  cases hv
  have hlt := (List.getElem?_eq_some_iff.1 ha).1
  rcases h3 with h3 | ⟨b', off', cs, t, fz, hab, hh, hcut⟩
  · omega
  · cases hab
    refine ⟨_, c', rfl, rfl, hc, .inr ⟨b, off + k * 3, cs, t, fz, rfl, hh, ?_⟩⟩
    have h3' := cells3 ha
    obtain ⟨c1, c2, c3⟩ := lacells_at ha
    have e0 : (lacells [a]) = lacell a := by simp [lacells]
    rw [e0]
    have g1 := cut_all hcut _ _ c1
    have g2 := cut_all hcut _ _ c2
    have g3 := cut_all hcut _ _ c3
    have hlen : off + (k * 3 + 2) < cs.length := (List.getElem?_eq_some_iff.1 g3).1
    rw [cut_some (by simp [lacell]; omega)]
    congr 1
    apply List.ext_getElem?
    intro j
    rw [List.getElem?_take]
    by_cases hj : j < (lacell a).length
    · rw [if_pos hj, List.getElem?_drop]
      simp only [lacell, List.length_cons, List.length_nil] at hj
      rcases (by omega : j = 0 ∨ j = 1 ∨ j = 2) with rfl | rfl | rfl
      · exact g1
      · rw [← Nat.add_assoc] at g2; exact g2
      · rw [← Nat.add_assoc] at g3; exact g3
    · rw [if_neg hj, List.getElem?_eq_none (by omega)]
set_option maxHeartbeats 1000000 in
theorem lalike_ok (b bd : Nat) (lv fv rv v : Value) (ds : List Slot) (l : List LAct) (w : World) (hk : Oks ds) (hd : DInv ds) (hn : 0 < ds.length) (hn2 : ds.length ≤ 100000) (hl : l.length ≤ 1000000) (hv : RowAt w v 3 l.length (lacells l)) (ho : Owns w [devE b lv ds, rdE bd fv rv ds]) :
    Fx Try.prog 43 [ptr b, ptr bd, v] w (Pure w (.bool true)) := by
  have h1 : ∀ w', Kept [] w w' → Owns w' (devG b lv ds) := fun w' k => (ho.of_kept k (fun _ _ h => by cases h)).grp (.head _)
  have h2 : ∀ w', Kept [] w w' → Owns w' (rdG bd fv rv (ds.map (·.firm)) (frl ds 0)) := fun w' k => (ho.of_kept k (fun _ _ h => by cases h)).grp (.tail _ (.head _))
  have hfl := frl_len_le ds
  have hr : ∀ L : Heap, Rd w (ids []) L v 3 l.length (lacells l) := fun L => .old hv (fun _ _ _ => by simp [X.ids])
  have hrf : ∀ L : Heap, Rd w (ids []) L rv 2 (frl ds 0).length (frcs (frl ds 0)) := fun L => .old (((h2 w (.refl _ _)).ok _ (.tail _ (.tail _ (.head _))) : SlOk w rv _ 2 _).rowAt (by decide) (frcs_len _).symm) (fun _ _ _ => by simp [X.ids])
  have hbd : w.heap[bd]? = some (.cells [fv, rv].toArray _ (0, 0)) := (h2 w (.refl _ _)).ok _ (.head _)
  have hB : bd ∉ ids ([] : Heap) := by simp [X.ids]
  refine Fx.of (L0 := []) Try.func43 rfl (by kernel_rfl) Try.ntmps43 rfl (Owns.nil w) ?_
  refine XC.rdv (hr _) fun ao m hva _ _ haa => ?_
  subst hva
  refine go (k := ?_)
  refine XC.loop (α := Nat) (fun k => [(0, ptr b), (1, ptr bd), (2, .slice ao l.length m), (7, iv k)]) (fun _ => []) (fun k => k ≤ l.length) (fun k => l.length - k) 0 [] (Nat.zero_le _) ⟨rfl, rfl, rfl, rfl, trivial⟩ rfl rfl ?_
  intro i hi
  by_cases hil : i < l.length
  · obtain ⟨a, ha⟩ : ∃ a, l[i]? = some a := ⟨_, List.getElem?_eq_getElem hil⟩
    obtain ⟨b1, o1, rfl⟩ : ∃ b off, ao = some ⟨b, off, none⟩ := haa.resolve_left (by omega)
    obtain ⟨c1, c2, c3⟩ := lacells_at ha
    by_cases hout : a.at_ < 0 ∨ (ds.length : Int) ≤ a.at_
    · have hel : errAt ds.length a.at_ = some 2 := by unfold errAt; rw [if_neg (by omega), if_pos (by omega)]
      refine go (k := ?_)
      refine XL.q (.ldRd (j := i * 3 + 1) rfl rfl rfl (hr _) (by omega) c2) rfl ?_
      refine go (k := ?_)
      refine XL.q (.call (v := .tuple #[str [], iv 2]) rfl rfl fun _ w' hs => read_err (ptr b) a.at_ 2 w' (by decide) fun w'' hk' => dat_err b lv ds a.at_ 2 w'' hk hel (h1 w'' (hs.kept.trans hk' fun b hb => by cases hb))) rfl ?_
      refine go (k := ?_)
      refine XL.q (.ldRd (j := i * 3 + 1) rfl rfl rfl (hr _) (by omega) c2) rfl ?_
      refine go (k := ?_)
      refine XL.q (.call (v := .tuple #[str [], iv 2]) rfl rfl fun _ w' hs => rread_out bd fv rv _ _ a.at_ w' (by rw [List.length_map]; exact hout) (h2 w' hs.kept)) rfl ?_
      refine go (k := ?_)
      refine XL.q (.ldRd (j := i * 3 + 1) rfl rfl rfl (hr _) (by omega) c2) rfl ?_
      refine go (k := ?_)
      refine XL.q (.call (v := .tuple #[str [], iv 2]) rfl rfl fun _ w' hs => firm_err (ptr b) a.at_ 2 w' (by decide) fun w'' hk' => dat_err b lv ds a.at_ 2 w'' hk hel (h1 w'' (hs.kept.trans hk' fun b hb => by cases hb))) rfl ?_
      refine go (k := ?_)
      refine XL.q (.ldRd (j := i * 3 + 1) rfl rfl rfl (hr _) (by omega) c2) rfl ?_
      refine go (k := ?_)
      refine XL.q (.call (v := .tuple #[str [], iv 2]) rfl rfl fun _ w' hs => rsure_out bd fv rv _ _ a.at_ w' (by rw [List.length_map]; exact hout) (h2 w' hs.kept)) rfl ?_
      refine go (k := ?_)
      exact XE.mid (i + 1) [] ⟨by omega, by omega⟩ ⟨rfl, rfl, rfl, rfl, trivial⟩ rfl rfl
    · obtain ⟨j, hj⟩ : ∃ j : Nat, a.at_ = j := ⟨a.at_.toNat, by omega⟩
      rw [hj] at c2
      obtain ⟨s, hs⟩ : ∃ s, ds[j]? = some s := ⟨_, List.getElem?_eq_getElem (by omega)⟩
      have hrr := frl_rrd ds j s hd hs
      obtain ⟨fi, re, fr⟩ := s
      refine go (k := ?_)
      refine XL.q (.ldRd (j := i * 3 + 1) rfl rfl rfl (hr _) (by omega) c2) rfl ?_
      refine go (k := ?_)
      refine XL.q (.call (v := .tuple #[str re, iv 0]) rfl rfl fun _ w' hs' => read_ok b lv ds j _ w' hk hs (h1 w' hs'.kept)) rfl ?_
      refine go (k := ?_)
      refine XL.q (.ldRd (j := i * 3 + 1) rfl rfl rfl (hr _) (by omega) c2) rfl ?_
      refine go (k := ?_)
      refine XL.q (.call (v := .tuple #[str re, iv 0]) rfl rfl fun _ w' hs' => by
        have := rread_ok bd fv rv (ds.map (·.firm)) (frl ds 0) j w' (by omega) (by rw [List.length_map]; omega) (h2 w' hs'.kept)
        rw [hrr] at this; exact this) rfl ?_
      refine go (k := ?_)
      refine XL.q (.ldRd (j := i * 3 + 1) rfl rfl rfl (hr _) (by omega) c2) rfl ?_
      refine go (k := ?_)
      refine XL.q (.call (v := .tuple #[str fi, iv 0]) rfl rfl fun _ w' hs' => firm_ok b lv ds j _ w' hk hs (h1 w' hs'.kept)) rfl ?_
      refine go (k := ?_)
      refine XL.q (.ldRd (j := i * 3 + 1) rfl rfl rfl (hr _) (by omega) c2) rfl ?_
      refine go (k := ?_)
      refine XL.q (.call (v := .tuple #[str fi, iv 0]) rfl rfl fun _ w' hs' => rsure_ok bd fv rv _ _ j fi w' (by rw [List.getElem?_map, hs]; rfl) (h2 w' hs'.kept)) rfl ?_
      refine go (k := ?_)
      exact XE.mid (i + 1) [] ⟨by omega, by omega⟩ ⟨rfl, rfl, rfl, rfl, trivial⟩ rfl rfl
  · have hflen : (freshL ds ds.length).length = (frl ds 0).length := by rw [freshL_frl, List.length_map]
    refine XC.rdv (hrf _) fun ar mr hvr _ _ _ => ?_
    subst hvr
    have c1 : [fv, Value.slice ar (frl ds 0).length mr][0 + 1]? = some (.slice ar (frl ds 0).length mr) := rfl
    refine go (k := ?_)
    refine XD.make (.call rfl rfl fun _ w hs => fresh_ok b lv ds w hk hn2 (h1 w hs.kept)) rfl rfl ?_
    refine XD.look (v := iv ((freshL ds ds.length).length : Int)) (.head _) rfl (fun u H ⟨x, _, hu, hH⟩ => by subst hu hH; exact .lenRd (k := 1) (xs := ivs (freshL ds ds.length)) rfl rfl (.sl (.head _) (by decide) (by simp))) rfl ?_
    refine go (k := ?_)
    refine XD.tail1 rfl (by decide +kernel) fun u H _ => ?_
    refine go (k := ?_)
    exact XE.ret1 () [] rfl rfl trivial (by rw [hflen, decide_eq_true rfl]) rfl rfl
end Go.X
