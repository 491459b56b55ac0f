/- The laws' own helpers of revertlaw12: few, begins, cutBy, works, run. -/
import Derived.Test.YtckelpenodabdaaDevI
namespace Go.X
open Go Go.Proofs Go.RowKit
structure LAct where
  what : Int
  at_ : Int
  s : List UInt8
instance : Inhabited LAct := ⟨⟨0, 0, []⟩⟩
def lacell (a : LAct) : List Value := [.int .u8 a.what, iv a.at_, str a.s]
def lacells (l : List LAct) : List Value := l.flatMap lacell
structure LActOk (a : LAct) : Prop where
  what : 0 ≤ a.what ∧ a.what ≤ 255
  at_ : -9223372036854775808 ≤ a.at_ ∧ a.at_ ≤ 9223372036854775807
  s : a.s.length ≤ maxLen
theorem lacells_at : ∀ {l : List LAct} {i : Nat} {a : LAct}, l[i]? = some a → (lacells l)[i * 3]? = some (.int .u8 a.what) ∧ (lacells l)[i * 3 + 1]? = some (iv a.at_) ∧ (lacells l)[i * 3 + 2]? = some (str a.s)
  | [], i, p, h => by simp at h
  | q :: l, 0, p, h => by simp at h; subst h; exact ⟨rfl, rfl, rfl⟩
  | q :: l, i + 1, p, h => by
    have := lacells_at (l := l) (i := i) (by simpa using h)
    rw [show (i + 1) * 3 = i * 3 + 1 + 1 + 1 by omega]
    exact this
theorem lacts_of {H : Type} {enc : TypeId × Value → H} {w : World} {spare : Nat → Bool} {held : Bool} {v : Value} (h : KOk enc Try.prog w 0 spare held (.sl 63) v) :
    ∃ l : List LAct, RowAt w v 3 l.length (lacells l) ∧ l.length ≤ maxLen ∧ ∀ a ∈ l, LActOk a :=
  rows_of lacell (Q := LActOk) (by decide) (by kernel_rfl) (fun cs fuel x hl h => by
    obtain ⟨c0, c1, c2, rfl⟩ := len3 hl
    have hf := flat_ok 3 (l := [(0, .int .u8), (1, .int .i64), (2, .str)]) (by kernel_rfl) h
    obtain ⟨_, e0, n0, rfl, b0⟩ := hf (0, .int .u8) (.head _)
    obtain ⟨_, e1, n1, rfl, b1⟩ := hf (1, .int .i64) (.tail _ (.head _))
    obtain ⟨_, e2, s2, rfl, b2⟩ := hf (2, .str) (.tail _ (.tail _ (.head _)))
    obtain rfl := Option.some.inj e0
    obtain rfl := Option.some.inj e1
    obtain rfl := Option.some.inj e2
    exact ⟨⟨n0, n1, s2.data.toList⟩, rfl, ⟨wf_u8 b0, wf_i64 b1, b2⟩⟩) h
def fewL (l : List LAct) : Bool := (l.take 70).all (fun a => decide (a.s.length ≤ 200)) && decide (l.length ≤ 60)
theorem fewL_spec {l : List LAct} (h : fewL l = true) : (∀ a ∈ l, a.s.length ≤ 200) ∧ l.length ≤ 60 := by
  simp only [fewL, Bool.and_eq_true, List.all_eq_true, decide_eq_true_eq] at h
  refine ⟨fun a ha => h.1 a ?_, h.2⟩
  rw [List.take_of_length_le (by omega)]; exact ha
theorem fewL_ok (v : Value) (l : List LAct) (w : World) (hv : RowAt w v 3 l.length (lacells l)) (hl : l.length ≤ maxLen) (hs : ∀ a ∈ l, LActOk a) :
    Fx Try.prog 29 [v] w (Pure w (.bool (fewL l))) := by
  have hr : ∀ L : Heap, Rd w (ids []) L v 3 l.length (lacells l) := fun L => .old hv (fun _ _ _ => by simp [X.ids])
  simp only [maxLen] at hl
  refine Fx.of (L0 := []) Try.func29 rfl (by kernel_rfl) Try.ntmps29 rfl (Owns.nil w) ?_
  refine XC.rdv (hr _) fun ao m hva _ _ haa => ?_
  subst hva
  refine go (k := ?_)
  refine XC.loop (α := Nat) (fun k => [(0, .slice ao l.length m), (3, iv k)]) (fun _ => []) (fun k => k ≤ l.length ∧ k ≤ 70 ∧ ∀ a ∈ l.take k, a.s.length ≤ 200) (fun k => l.length - k) 0 [] ⟨Nat.zero_le _, Nat.zero_le _, fun a h => by simp at h⟩ ⟨rfl, rfl, trivial⟩ rfl rfl ?_
  intro k ⟨hk, hk70, hpre⟩
  by_cases hkl : k < l.length
  · obtain ⟨a, ha⟩ : ∃ a, l[k]? = some a := ⟨_, List.getElem?_eq_getElem hkl⟩
    obtain ⟨b1, o1, rfl⟩ : ∃ b off, ao = some ⟨b, off, none⟩ := haa.resolve_left (by omega)
    obtain ⟨c1, c2, c3⟩ := lacells_at ha
    have hok := hs a (List.mem_of_getElem? ha)
    have hsl := hok.s
    simp only [maxLen] at hsl
    by_cases h70 : k < 70
    · by_cases hlong : 200 < a.s.length
      · refine go (k := ?_)
        refine XL.q (.ldRd (j := k * 3 + 2) rfl rfl rfl (hr _) (by omega) c3) rfl ?_
        refine go (k := ?_)
        refine XE.ret1 () [] rfl rfl trivial ?_ rfl rfl
        have : fewL l = false := by
          unfold fewL
          have : ((l.take 70).all fun a => decide (a.s.length ≤ 200)) = false := by
            rw [List.all_eq_false]
            exact ⟨a, List.mem_of_getElem? (i := k) (by rw [List.getElem?_take, if_pos h70]; exact ha), by simp; omega⟩
          rw [this]; rfl
        rw [this]
      · refine go (k := ?_)
        refine XL.q (.ldRd (j := k * 3 + 2) rfl rfl rfl (hr _) (by omega) c3) rfl ?_
        refine go (k := ?_)
        refine XE.mid (k + 1) [] ⟨⟨by omega, by omega, fun x hx => ?_⟩, by omega⟩ ⟨rfl, rfl, trivial⟩ rfl rfl
        rw [take_snoc ha] at hx
        rcases List.mem_append.1 hx with hx | hx
        · exact hpre x hx
        · rw [List.mem_singleton.1 hx]; omega
    · obtain rfl : k = 70 := by omega
      refine go (k := ?_)
      refine XE.ret1 () [] rfl rfl trivial ?_ rfl rfl
      have : fewL l = decide ((l.length : Int) ≤ 60) := by
        unfold fewL
        have : ((l.take 70).all fun a => decide (a.s.length ≤ 200)) = true := by
          rw [List.all_eq_true]; intro x hx; simpa using hpre x hx
        rw [this, Bool.true_and]
        exact decide_eq_decide.2 (by omega)
      rw [this]
  · obtain rfl : k = l.length := by omega
    rw [List.take_length] at hpre
    refine go (k := ?_)
    refine XE.ret1 () [] rfl rfl trivial ?_ rfl rfl
    have : fewL l = decide ((l.length : Int) ≤ 60) := by
      unfold fewL
      have : ((l.take 70).all fun a => decide (a.s.length ≤ 200)) = true := by
        rw [List.all_eq_true]; intro x hx; simpa using hpre x (List.mem_of_mem_take hx)
      rw [this, Bool.true_and]
      exact decide_eq_decide.2 (by omega)
    rw [this]
/-! ### begins, cutBy, works -/
theorem begins12_ok (b : Nat) (lv : Value) (ds : List Slot) (k : Nat) (s : Slot) (t : List UInt8) (w : World) (hk : Oks ds) (hs : ds[k]? = some s) (ht : s.read.take 2 = t) (ho : Owns w (devG b lv ds)) : Fx Try.prog 38 [ptr b, iv k, str t] w (Pure w (.bool true)) := by
  have hown : ∀ w', Kept [] w w' → Owns w' (devG b lv ds) := fun w' k => ho.of_kept k (fun _ _ h => by cases h)
  have hl : s.read.length = 64 := (hk s (List.mem_of_getElem? hs)).2
  refine Fx.of (L0 := []) Try.func38 rfl (by kernel_rfl) Try.ntmps38 rfl (Owns.nil w) ?_
  refine go (k := ?_)
  refine XL.q (.call rfl rfl fun _ w' hs' => read_ok b lv ds k s w' hk hs (hown w' hs'.kept)) rfl ?_
  refine go (k := ?_)
  refine XE.ret1 () [] rfl rfl trivial ?_ rfl rfl
  simp [ht]
theorem Ln.act_oks {cut : Int} {ch : List Int} {x : Ln} {e : Int} {ds' : List Slot} (h : Oks x.ds) (h' : Oks ds') : Oks (x.act cut ch e ds').2.ds := by
  unfold Ln.act
  split
  · exact h
  · split
    · refine settled_ok ?_
      split
      · exact h'
      · exact h
    · exact h'
theorem Ln.act_len {cut : Int} {ch : List Int} {x : Ln} {e : Int} {ds' : List Slot} (h' : ds'.length = x.ds.length) : (x.act cut ch e ds').2.ds.length = x.ds.length := by
  unfold Ln.act
  split
  · rfl
  · split
    · show (settled _ _).length = _
      rw [settled_len]
      split
      · exact h'
      · rfl
    · exact h'
theorem Ln.act_acts {cut : Int} {ch : List Int} {x : Ln} {e : Int} {ds' : List Slot} : (x.act cut ch e ds').2.acts ≤ x.acts + 1 := by
  unfold Ln.act
  split
  · exact Nat.le_succ _
  · split
    · exact Nat.le_refl _
    · exact Nat.le_refl _
structure LOk (x : Ln) (n : Nat) : Prop where
  ok : Oks x.ds
  len : x.ds.length = 256
  acts : x.acts ≤ n
theorem LOk.write {cut : Int} {ch : List Int} {x : Ln} {n : Nat} (h : LOk x n) (k : Int) (s : List UInt8) : LOk (x.write cut ch k s).2 (n + 1) :=
  ⟨Ln.act_oks h.ok (dwr_ok h.ok k s), (Ln.act_len (dwr_len _ _ _)).trans h.len, Nat.le_trans Ln.act_acts (Nat.succ_le_succ h.acts)⟩
theorem LOk.flush {cut : Int} {ch : List Int} {x : Ln} {n : Nat} (h : LOk x n) : LOk (x.flush cut ch).2 (n + 1) :=
  ⟨Ln.act_oks h.ok (settled_ok h.ok), (Ln.act_len (settled_len _ _)).trans h.len, Nat.le_trans Ln.act_acts (Nat.succ_le_succ h.acts)⟩
theorem LOk.mono {x : Ln} {n m : Nat} (h : LOk x n) (hm : n ≤ m) : LOk x m := ⟨h.ok, h.len, Nat.le_trans h.acts hm⟩
abbrev ln0 : Ln := ⟨0, false, List.replicate 256 slot0⟩
theorem ln0_ok : LOk ln0 0 := ⟨rep_ok 256, List.length_replicate, Nat.le_refl _⟩
def cb1 (c : Int) : Int × Ln := Ln.write 1 [c] ln0 5 [97, 98]
def cb2 (c : Int) : Int × Ln := Ln.write 1 [c] (cb1 c).2 6 [99, 100]
def cb3 (c : Int) : Int × Ln := Ln.write 1 [c] (cb2 c).2 7 [101, 102]
def cbOk (c : Int) (five six : List UInt8) : Bool := decide ((cb1 c).1 = 0 ∧ (cb2 c).1 = 8 ∧ (cb3 c).1 = 8 ∧ (cb3 c).2.acts = 2 ∧ (cb3 c).2.down = true ∧ ((cb3 c).2.ds[5]?.map fun s => s.read.take 2) = some five ∧ ((cb3 c).2.ds[6]?.map fun s => s.read.take 2) = some six ∧ ((cb3 c).2.ds[7]?.map fun s => s.read.take 2) = some [0, 0])
set_option maxHeartbeats 1000000 in
theorem cutBy_gen (c : Int) (five six : List UInt8) (w : World) (hc : -9223372036854775808 ≤ c ∧ c ≤ 9223372036854775807) (x1 x2 : Ln) (ds : List Slot) (s5 s6 s7 : Slot) (h1 : Ln.write 1 [c] ln0 5 [97, 98] = (0, x1)) (h2 : Ln.write 1 [c] x1 6 [99, 100] = (8, x2)) (h3 : Ln.write 1 [c] x2 7 [101, 102] = (8, ⟨2, true, ds⟩))
    (h5 : ds[5]? = some s5) (t5 : s5.read.take 2 = five) (h6 : ds[6]? = some s6) (t6 : s6.read.take 2 = six) (h7 : ds[7]? = some s7) (t7 : s7.read.take 2 = [0, 0]) : Fx Try.prog 40 [iv c, str five, str six] w (Pure w (.bool true)) := by
  have o1 : LOk x1 1 := by have h := ln0_ok.write (cut := 1) (ch := [c]) 5 [97, 98]; rw [h1] at h; exact h
  have o2 : LOk x2 2 := by have h := o1.write (cut := 1) (ch := [c]) 6 [99, 100]; rw [h2] at h; exact h
  have o3 : LOk ⟨2, true, ds⟩ 3 := by have h := o2.write (cut := 1) (ch := [c]) 7 [101, 102]; rw [h3] at h; exact h
  have hw : ∀ a ∈ [c], -9223372036854775808 ≤ a ∧ a ≤ 9223372036854775807 := fun a ha => by rw [List.mem_singleton.1 ha]; exact hc
  refine Fx.of (L0 := []) Try.func40 rfl (by kernel_rfl) Try.ntmps40 rfl (Owns.nil w) ?_
  refine go (k := ?_)
  refine XL.call [] [] rfl rfl rfl rfl rfl (fun _ w _ _ => dnew_ok 256 w (by decide) (by decide)) fun x _ => ?_
  obtain ⟨b, lv⟩ := x
  refine go (k := ?_)
  refine XL.make (.bslice rfl rfl rfl rfl rfl rfl) rfl fun _ _ hb => ?_
  obtain ⟨bs, rfl, rfl⟩ := hb
  refine go (k := ?_)
  refine XL.call [1] [0] rfl rfl rfl rfl rfl (fun _ w1 hs ho => lnew_ok b lv (List.replicate 256 slot0) 1 _ [c] w1 (rep_ok 256) (by rw [List.length_replicate]; decide) (show (1 : Nat) ≤ 1000000 by decide) (fun w' hk' => (Rd.blk (L := [.blk bs [iv c] 3]) (w0 := w1) (B := ids (devG b lv (List.replicate 256 slot0))) (.head _) rfl (Nat.le_refl _) rfl : Rd _ _ _ _ 1 1 (ivs [c])) w' ((Owns.left (L := [.blk bs [iv c] 3]) (M := [devE b lv (List.replicate 256 slot0)]) hs.own).of_kept hk' (fun x hx h => Owns.apart (L := [.blk bs [iv c] 3]) (M := [devE b lv (List.replicate 256 slot0)]) hs.own x hx (by rw [ids_grp1]; exact h))) hk') ho) fun x _ => ?_
  obtain ⟨bl, vc⟩ := x
  refine XL.nm ?_
  refine go (k := ?_)
  refine XL.call [0, 1, 2] [] rfl rfl rfl rfl rfl (fun _ w _ ho => lwrite_ok bl b lv vc 1 [c] ln0 5 [97, 98] w (rep_ok 256) (by rw [List.length_replicate]; decide) (by rw [List.length_replicate]; decide) (by decide) (show (1 : Nat) ≤ 1000000 by decide) hw ho) fun _ _ => ?_
  rw [h1]
  refine XL.nm ?_
  refine go (k := ?_)
  refine XL.call [0, 1, 2] [] rfl rfl rfl rfl rfl (fun _ w _ ho => lwrite_ok bl b lv vc 1 [c] x1 6 [99, 100] w o1.ok (by have := o1.len; omega) (by have := o1.len; omega) (by have := o1.acts; omega) (show (1 : Nat) ≤ 1000000 by decide) hw ho) fun _ _ => ?_
  rw [h2]
  refine XL.nm ?_
  refine go (k := ?_)
  refine XL.call [0, 1, 2] [] rfl rfl rfl rfl rfl (fun _ w _ ho => lwrite_ok bl b lv vc 1 [c] x2 7 [101, 102] w o2.ok (by have := o2.len; omega) (by have := o2.len; omega) (by have := o2.acts; omega) (show (1 : Nat) ≤ 1000000 by decide) hw ho) fun _ _ => ?_
  rw [h3]
  refine XL.nm ?_
  clear h1 h2 h3 o1 o2
  refine go (k := ?_)
  refine XL.q (.call (v := .tuple #[str [], iv 8]) rfl rfl fun _ w hs => lread_ok bl b lv vc 1 [c] ⟨2, true, ds⟩ 5 w o3.ok (by have h := o3.len; simp only at h ⊢; omega) hs.own) rfl ?_
  refine go (k := ?_)
  refine XL.q (.call rfl rfl fun _ w hs => acts_at bl b 1 vc 2 true _ _ w (hs.own.ok _ (.head _))) rfl ?_
  refine go (k := ?_)
  refine XL.q (.call rfl rfl fun _ w hs => down_at bl b 1 vc 2 true _ _ w (hs.own.ok _ (.head _))) rfl ?_
  refine go (k := ?_)
  refine XL.q (.call rfl rfl fun _ w hs => begins12_ok b lv ds 5 s5 five w o3.ok h5 t5 (hs.own.grp (.tail _ (.tail _ (.head _))))) rfl ?_
  refine go (k := ?_)
  refine XL.q (.call rfl rfl fun _ w hs => begins12_ok b lv ds 6 s6 six w o3.ok h6 t6 (hs.own.grp (.tail _ (.tail _ (.head _))))) rfl ?_
  refine go (k := ?_)
  refine XL.q (.call rfl rfl fun _ w hs => begins12_ok b lv ds 7 s7 [0, 0] w o3.ok h7 t7 (hs.own.grp (.tail _ (.tail _ (.head _))))) rfl ?_
  refine go (k := ?_)
  exact XE.ret1 () [] rfl rfl trivial rfl rfl rfl
theorem cutBy_ok (c : Int) (five six : List UInt8) (w : World) (hc : -9223372036854775808 ≤ c ∧ c ≤ 9223372036854775807) (h : cbOk c five six = true) : Fx Try.prog 40 [iv c, str five, str six] w (Pure w (.bool true)) := by
  obtain ⟨f1, f2, f3, f4, f5, f6, f7, f8⟩ := of_decide_eq_true h
  obtain ⟨s5, h5, t5⟩ := Option.map_eq_some_iff.1 f6
  obtain ⟨s6, h6, t6⟩ := Option.map_eq_some_iff.1 f7
  obtain ⟨s7, h7, t7⟩ := Option.map_eq_some_iff.1 f8
  refine cutBy_gen c five six w hc (cb1 c).2 (cb2 c).2 (cb3 c).2.ds s5 s6 s7 ?_ ?_ ?_ h5 t5 h6 t6 h7 t7
  · show cb1 c = _
    rw [← f1]
  · show cb2 c = _
    rw [← f2]
  · show cb3 c = _
    rw [← f3, ← f4, ← f5]
theorem cbw1 : cbOk 1 [97, 0] [99, 0] = true := by decide +kernel
theorem cbw2 : cbOk 2 [97, 98] [0, 0] = true := by decide +kernel
theorem works_ok (w : World) : Fx Try.prog 30 [] w (Pure w (.bool true)) := by
  refine Fx.of (L0 := []) Try.func30 rfl (by kernel_rfl) Try.ntmps30 rfl (Owns.nil w) ?_
  refine go (k := ?_)
  refine XL.q (.call rfl rfl fun _ w _ => cutBy_ok 1 [97, 0] [99, 0] w (by decide) cbw1) rfl ?_
  refine go (k := ?_)
  refine XL.q (.call rfl rfl fun _ w _ => cutBy_ok 2 [97, 98] [0, 0] w (by decide) cbw2) rfl ?_
  refine go (k := ?_)
  exact XE.ret1 () [] rfl rfl trivial rfl rfl rfl
end Go.X
