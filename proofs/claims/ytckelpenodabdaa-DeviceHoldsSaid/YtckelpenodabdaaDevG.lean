/- Acts on a device: few, run. -/
import Derived.Test.YtckelpenodabdaaDevE
namespace Go.X
open Go Go.Proofs Go.RowKit
structure DAct where
  what : Int
  at_ : Int
  s : List UInt8
  cv : Value
  ch : List Int
instance : Inhabited DAct := ⟨⟨0, 0, [], .slice none 0 0, []⟩⟩
def dacell (a : DAct) : List Value := [.int .u8 a.what, iv a.at_, str a.s, a.cv]
def dacells (l : List DAct) : List Value := l.flatMap dacell
/-- what is known of an act that came in -/
structure DActOk (w : World) (a : DAct) : Prop where
  what : 0 ≤ a.what ∧ a.what ≤ 255
  at_ : -9223372036854775808 ≤ a.at_ ∧ a.at_ ≤ 9223372036854775807
  s : a.s.length ≤ maxLen
  row : RowAt w a.cv 1 a.ch.length (ivs a.ch)
  chl : a.ch.length ≤ maxLen
  chw : ∀ x ∈ a.ch, -9223372036854775808 ≤ x ∧ x ≤ 9223372036854775807
theorem dacells_len : ∀ l, (dacells l).length = l.length * 4
  | [] => rfl
  | a :: l => by
    have := dacells_len l
    unfold dacells at this ⊢
    simp only [List.flatMap_cons, List.length_append, this, List.length_cons, dacell, List.length_nil]; omega
theorem dacells_at : ∀ {l : List DAct} {i : Nat} {a : DAct}, l[i]? = some a → (dacells l)[i * 4]? = some (.int .u8 a.what) ∧ (dacells l)[i * 4 + 1]? = some (iv a.at_) ∧ (dacells l)[i * 4 + 2]? = some (str a.s) ∧ (dacells l)[i * 4 + 3]? = some a.cv
  | [], i, p, h => by simp at h
  | q :: l, 0, p, h => by simp at h; subst h; exact ⟨rfl, rfl, rfl, rfl⟩
  | q :: l, i + 1, p, h => by
    have := dacells_at (l := l) (i := i) (by simpa using h)
    rw [show (i + 1) * 4 = i * 4 + 1 + 1 + 1 + 1 by omega]
    exact this
theorem dacts_of {H : Type} {enc : TypeId × Value → H} {w : World} {spare : Nat → Bool} {held : Bool} {v : Value} (h : KOk enc Try.prog w 0 spare held (.sl 44) v) :
    ∃ l : List DAct, RowAt w v 4 l.length (dacells l) ∧ l.length ≤ maxLen ∧ ∀ a ∈ l, DActOk w a :=
  rows_of dacell (Q := DActOk w) (by decide) (by kernel_rfl) (fun cs fuel x hl h => by
    obtain ⟨c0, c1, c2, c3, rfl⟩ := len4 hl
    have hf := flat_ok 4 (l := [(0, .int .u8), (1, .int .i64), (2, .str), (3, .sl 3)]) (by kernel_rfl) h
    obtain ⟨_, e0, n0, rfl, b0⟩ := hf (0, .int .u8) (.head _)
    obtain ⟨_, e1, n1, rfl, b1⟩ := hf (1, .int .i64) (.tail _ (.head _))
    obtain ⟨_, e2, s2, rfl, b2⟩ := hf (2, .str) (.tail _ (.tail _ (.head _)))
    obtain ⟨v3, e3, h3⟩ := hf (3, .sl 3) (.tail _ (.tail _ (.tail _ (.head _))))
    obtain rfl := Option.some.inj e0
    obtain rfl := Option.some.inj e1
    obtain rfl := Option.some.inj e2
    obtain rfl := Option.some.inj e3
    obtain ⟨ch, r1, r2, r3⟩ := ints_of Try.underlying3 (by kernel_rfl) h3
    exact ⟨⟨n0, n1, s2.data.toList, c3, ch⟩, rfl, ⟨wf_u8 b0, wf_i64 b1, b2, r1, r2, fun a ha => wf_i64 (r3 a ha)⟩⟩) h
def fewD (l : List DAct) : Bool := (l.take 80).all (fun a => decide (a.s.length ≤ 200 ∧ a.ch.length ≤ 20)) && decide (l.length ≤ 70)
theorem fewD_spec {l : List DAct} (h : fewD l = true) : (∀ a ∈ l, a.s.length ≤ 200 ∧ a.ch.length ≤ 20) ∧ l.length ≤ 70 := by
  simp only [fewD, Bool.and_eq_true, List.all_eq_true, decide_eq_true_eq] at h
  refine ⟨fun a ha => h.1 a ?_, h.2⟩
  rw [List.take_of_length_le (by omega)]; exact ha
theorem fewD_ok (v : Value) (l : List DAct) (w : World) (hv : RowAt w v 4 l.length (dacells l)) (hl : l.length ≤ maxLen) (hs : ∀ a ∈ l, DActOk w a) :
    Fx Try.prog 18 [v] w (Pure w (.bool (fewD l))) := by
  have hr : ∀ L : Heap, Rd w (ids []) L v 4 l.length (dacells l) := fun L => .old hv (fun _ _ _ => by simp [X.ids])
  simp only [maxLen] at hl
  refine Fx.of (L0 := []) Try.func18 rfl (by kernel_rfl) Try.ntmps18 rfl (Owns.nil w) ?_
  refine XC.rdv (hr _) fun ao m hva _ _ haa => ?_
  subst hva
  refine go (k := ?_)
  refine XC.loop (α := Nat) (fun k => [(0, .slice ao l.length m), (3, iv k)]) (fun _ => []) (fun k => k ≤ l.length ∧ k ≤ 80 ∧ ∀ a ∈ l.take k, a.s.length ≤ 200 ∧ a.ch.length ≤ 20) (fun k => l.length - k) 0 [] ⟨Nat.zero_le _, Nat.zero_le _, fun a h => by simp at h⟩ ⟨rfl, rfl, trivial⟩ rfl rfl ?_
  intro k ⟨hk, hk80, hpre⟩
  by_cases hkl : k < l.length
  · obtain ⟨a, ha⟩ : ∃ a, l[k]? = some a := ⟨_, List.getElem?_eq_getElem hkl⟩
    obtain ⟨b1, o1, rfl⟩ : ∃ b off, ao = some ⟨b, off, none⟩ := haa.resolve_left (by omega)
    obtain ⟨c1, c2, c3, c4⟩ := dacells_at ha
    have hok := hs a (List.mem_of_getElem? ha)
    have hsl := hok.s
    obtain ⟨ac, cc, hcv, _, _⟩ := hok.row
    rw [hcv] at c4
    simp only [maxLen] at hsl
    by_cases h80 : k < 80
    · have hno : ∀ P : Prop, (200 < a.s.length ∨ 20 < a.ch.length) → fewD l = false := fun _ h => by
        unfold fewD
        have : ((l.take 80).all fun a => decide (a.s.length ≤ 200 ∧ a.ch.length ≤ 20)) = false := by
          rw [List.all_eq_false]
          exact ⟨a, List.mem_of_getElem? (i := k) (by rw [List.getElem?_take, if_pos h80]; exact ha), by simp; omega⟩
        rw [this]; rfl
      by_cases hlong : 200 < a.s.length
      · refine go (k := ?_)
        refine XL.q (.ldRd (j := k * 4 + 2) rfl rfl rfl (hr _) (by omega) c3) rfl ?_
        refine go (k := ?_)
        refine XE.ret1 () [] rfl rfl trivial ?_ rfl rfl
        rw [hno True (.inl hlong)]
      · by_cases hch : 20 < a.ch.length
        · refine go (k := ?_)
          refine XL.q (.ldRd (j := k * 4 + 2) rfl rfl rfl (hr _) (by omega) c3) rfl ?_
          refine go (k := ?_)
          refine XL.q (.ldRd (j := k * 4 + 3) rfl rfl rfl (hr _) (by omega) c4) rfl ?_
          refine go (k := ?_)
          refine XE.ret1 () [] rfl rfl trivial ?_ rfl rfl
          rw [hno True (.inr hch)]
        · refine go (k := ?_)
          refine XL.q (.ldRd (j := k * 4 + 2) rfl rfl rfl (hr _) (by omega) c3) rfl ?_
          refine go (k := ?_)
          refine XL.q (.ldRd (j := k * 4 + 3) rfl rfl rfl (hr _) (by omega) c4) rfl ?_
          refine go (k := ?_)
          refine XE.mid (k + 1) [] ⟨⟨by omega, by omega, fun x hx => ?_⟩, by omega⟩ ⟨rfl, rfl, trivial⟩ rfl rfl
          rw [take_snoc ha] at hx
          rcases List.mem_append.1 hx with hx | hx
          · exact hpre x hx
          · rw [List.mem_singleton.1 hx]; omega
    · obtain rfl : k = 80 := by omega
      refine go (k := ?_)
      refine XE.ret1 () [] rfl rfl trivial ?_ rfl rfl
      have : fewD l = decide ((l.length : Int) ≤ 70) := by
        unfold fewD
        have : ((l.take 80).all fun a => decide (a.s.length ≤ 200 ∧ a.ch.length ≤ 20)) = true := by
          rw [List.all_eq_true]; intro x hx; simpa using hpre x hx
        rw [this, Bool.true_and]
        exact decide_eq_decide.2 (by omega)
      rw [this]
  · obtain rfl : k = l.length := by omega
    rw [List.take_length] at hpre
    refine go (k := ?_)
    refine XE.ret1 () [] rfl rfl trivial ?_ rfl rfl
    have : fewD l = decide ((l.length : Int) ≤ 70) := by
      unfold fewD
      have : ((l.take 80).all fun a => decide (a.s.length ≤ 200 ∧ a.ch.length ≤ 20)) = true := by
        rw [List.all_eq_true]; intro x hx; simpa using hpre x (List.mem_of_mem_take hx)
      rw [this, Bool.true_and]
      exact decide_eq_decide.2 (by omega)
    rw [this]
/-! ### run -/
/-- Write, of any block and any bytes -/
def dwr (ds : List Slot) (k : Int) (s : List UInt8) : Int × List Slot := if ds.length = 0 then (1, ds) else if k < 0 ∨ ds.length ≤ k then (2, ds) else if 64 < s.length then (3, ds) else (0, ds.set k.toNat ⟨(ds.getD k.toNat slot0).firm, padTo s, true⟩)
theorem dwr_len (ds : List Slot) (k : Int) (s : List UInt8) : (dwr ds k s).2.length = ds.length := by
  unfold dwr
  split
  · rfl
  · split
    · rfl
    · split
      · rfl
      · simp
theorem dwr_ok {ds : List Slot} (h : Oks ds) (k : Int) (s : List UInt8) : Oks (dwr ds k s).2 := by
  unfold dwr
  split
  · exact h
  · split
    · exact h
    · split
      · exact h
      · rename_i h0 h1 h2
        refine h.set ⟨?_, padTo_len (by omega)⟩
        rw [List.getD_eq_getElem?_getD]
        cases hd : ds[k.toNat]? with
        | none => exact slot0_ok.1
        | some x => exact (h x (List.mem_of_getElem? hd)).1
theorem write_any (b : Nat) (lv : Value) (ds : List Slot) (k : Int) (s : List UInt8) (w : World) (hk : Oks ds) (hn : 0 < ds.length) (ho : Owns w [devE b lv ds]) :
    Fx Try.prog 14 [ptr b, iv k, str s] w (Ret w [devE b lv ds] (fun _ : Unit => iv (dwr ds k s).1) (fun _ => [devE b lv (dwr ds k s).2]) (fun _ => True)) := by
  have hG := ho.grp (.head _)
  by_cases h1 : k < 0 ∨ ds.length ≤ k
  · have e : dwr ds k s = (2, ds) := by unfold dwr; rw [if_neg (by omega), if_pos h1]
    rw [e]
    refine Fx.keep ho (write_err (ptr b) k 2 s w (by decide) fun w' hk' => dat_err b lv ds k 2 w' hk ?_ (hG.of_kept hk' fun _ _ h => by cases h))
    unfold errAt; rw [if_neg (by omega), if_pos h1]
  · obtain ⟨j, rfl⟩ : ∃ j : Nat, k = j := ⟨k.toNat, by omega⟩
    by_cases h2 : 64 < s.length
    · have e : dwr ds j s = (3, ds) := by unfold dwr; rw [if_neg (by omega), if_neg h1, if_pos h2]
      rw [e]
      exact Fx.keep ho (write_long b lv ds j s w hk (by omega) h2 hG)
    · obtain ⟨x, hx⟩ : ∃ x, ds[j]? = some x := ⟨_, List.getElem?_eq_getElem (by omega)⟩
      have e : dwr ds j s = (0, ds.set j ⟨x.firm, padTo s, true⟩) := by
        unfold dwr; rw [if_neg (by omega), if_neg h1, if_neg h2, Int.toNat_natCast, List.getD_eq_getElem?_getD, hx]; rfl
      rw [e]
      exact Fx.grp (fun ho => write_ok b lv ds j x s w hk hx (by omega) ho) ho
def dstep (ds : List Slot) (a : DAct) : List Slot := if a.what % 6 = 3 then settled F64 ds else if a.what % 6 = 4 then settled (Fc a.ch) ds else if a.what % 6 = 5 then ds else (dwr ds a.at_ a.s).2
theorem dstep_len (ds : List Slot) (a : DAct) : (dstep ds a).length = ds.length := by
  unfold dstep
  split
  · exact settled_len _ _
  · split
    · exact settled_len _ _
    · split
      · rfl
      · exact dwr_len _ _ _
theorem dstep_ok {ds : List Slot} (h : Oks ds) (a : DAct) : Oks (dstep ds a) := by
  unfold dstep
  split
  · exact settled_ok h
  · split
    · exact settled_ok h
    · split
      · exact h
      · exact dwr_ok h _ _
def druns (ds : List Slot) (l : List DAct) : List Slot := l.foldl dstep ds
theorem druns_snoc (ds : List Slot) (l : List DAct) (a : DAct) : druns ds (l ++ [a]) = dstep (druns ds l) a := by simp [druns]
theorem druns_len (l : List DAct) : ∀ ds, (druns ds l).length = ds.length := by
  induction l with
  | nil => intro ds; rfl
  | cons a l ih => intro ds; exact (ih (dstep ds a)).trans (dstep_len ds a)
theorem druns_ok (l : List DAct) : ∀ ds, Oks ds → Oks (druns ds l) := by
  induction l with
  | nil => intro ds h; exact h
  | cons a l ih => intro ds h; exact ih _ (dstep_ok h a)
theorem drun_ok (b : Nat) (lv : Value) (ds : List Slot) (v : Value) (l : List DAct) (w : World) (hk : Oks ds) (hn : 0 < ds.length) (hn2 : ds.length ≤ 100000) (hv : ∀ w', Kept (ids (devG b lv ds)) w w' → RowAt w' v 4 l.length (dacells l)) (hl : l.length ≤ 1000)
    (hs : ∀ a ∈ l, a.s.length ≤ 1000 ∧ a.ch.length ≤ 1000 ∧ (0 ≤ a.what ∧ a.what ≤ 255) ∧ (∀ x ∈ a.ch, -9223372036854775808 ≤ x ∧ x ≤ 9223372036854775807) ∧ ∀ w', Kept (ids (devG b lv ds)) w w' → RowAt w' a.cv 1 a.ch.length (ivs a.ch)) (ho : Owns w [devE b lv ds]) :
    Fx Try.prog 27 [ptr b, v] w (Ret w [devE b lv ds] (fun _ : Unit => .tuple #[]) (fun _ => [devE b lv (druns ds l)]) (fun _ => True)) := by
  have hids : ∀ d : List Slot, ids (devG b lv d) = ids [devE b lv ds] := fun d => by simp only [X.ids, Ent.ids, grp, List.append_nil]
  have hr : ∀ d : List Slot, Rd w (ids [devE b lv ds]) [devE b lv d] v 4 l.length (dacells l) := fun d w' _ hk' => hv w' (hids ds ▸ hk')
  refine Fx.of Try.func27 rfl (by kernel_rfl) Try.ntmps27 rfl ho ?_
  refine XC.rdv (hr ds) fun ao m hva _ _ haa => ?_
  subst hva
  refine go (k := ?_)
  refine XC.loop (α := Nat) (fun k => [(0, ptr b), (1, .slice ao l.length m), (4, iv k)]) (fun k => [devE b lv (druns ds (l.take k))]) (fun k => k ≤ l.length) (fun k => l.length - k) 0 [0] (Nat.zero_le _) ⟨rfl, rfl, rfl, trivial⟩ rfl rfl ?_
  intro k hk1
  obtain ⟨d, hd⟩ : ∃ d, d = druns ds (l.take k) := ⟨_, rfl⟩
  have hdk : Oks d := by rw [hd]; exact druns_ok _ _ hk
  have hdl : d.length = ds.length := by rw [hd]; exact druns_len _ _
  rw [← hd]
  by_cases hkl : k < l.length
  · obtain ⟨a, ha⟩ : ∃ a, l[k]? = some a := ⟨_, List.getElem?_eq_getElem hkl⟩
    obtain ⟨b1, o1, rfl⟩ : ∃ b off, ao = some ⟨b, off, none⟩ := haa.resolve_left (by omega)
    obtain ⟨c1, c2, c3, c4⟩ := dacells_at ha
    obtain ⟨hs1, hs2, hs3, hs4, hs5⟩ := hs a (List.mem_of_getElem? ha)
    have hsn : druns ds (l.take (k + 1)) = dstep d a := by rw [take_snoc ha, druns_snoc, hd]
    by_cases w3 : a.what % 6 = 3
    · have e : dstep d a = settled F64 d := by unfold dstep; rw [if_pos w3]
      rw [e] at hsn
      refine go (k := ?_)
      refine XL.q (.ldRd (j := k * 4) rfl rfl rfl (hr d) (by omega) c1) rfl ?_
      refine go (k := ?_)
      refine XL.call [0] [] rfl rfl rfl rfl rfl (fun _ w _ ho => Fx.grp (fun ho => flush_ok b lv d w hdk (by omega) ho) ho) fun _ _ => ?_
      refine go (k := ?_)
      exact XE.mid (k + 1) [0] ⟨by omega, by omega⟩ ⟨rfl, rfl, rfl, trivial⟩ rfl (by rw [hsn]; rfl)
    by_cases w4 : a.what % 6 = 4
    · have e : dstep d a = settled (Fc a.ch) d := by unfold dstep; rw [if_neg w3, if_pos w4]
      rw [e] at hsn
      refine go (k := ?_)
      refine XL.q (.ldRd (j := k * 4) rfl rfl rfl (hr d) (by omega) c1) rfl ?_
      refine go (k := ?_)
      refine XL.q (.ldRd (j := k * 4 + 3) rfl rfl rfl (hr d) (by omega) c4) rfl ?_
      refine go (k := ?_)
      refine XL.call [0] [] rfl rfl rfl rfl rfl (fun _ w1 hs' ho => Fx.grp (fun ho => crash_ok b lv d a.cv a.ch w1 hdk (by omega) (fun w' hk' => hs5 w' (by
        have h1 := hs'.kept
        rw [← hids ds] at h1
        exact h1.trans hk' fun x hx => .inl (by rw [hids ds, ← hids d]; exact hx))) (by omega) hs4 ho) ho) fun _ _ => ?_
      refine go (k := ?_)
      exact XE.mid (k + 1) [0] ⟨by omega, by omega⟩ ⟨rfl, rfl, rfl, trivial⟩ rfl (by rw [hsn]; rfl)
    by_cases w5 : a.what % 6 = 5
    · have e : dstep d a = d := by unfold dstep; rw [if_neg w3, if_neg w4, if_pos w5]
      rw [e] at hsn
      refine go (k := ?_)
      refine XL.q (.ldRd (j := k * 4) rfl rfl rfl (hr d) (by omega) c1) rfl ?_
      refine go (k := ?_)
      exact XE.mid (k + 1) [0] ⟨by omega, by omega⟩ ⟨rfl, rfl, rfl, trivial⟩ rfl (by rw [hsn]; rfl)
    · have e : dstep d a = (dwr d a.at_ a.s).2 := by unfold dstep; rw [if_neg w3, if_neg w4, if_neg w5]
      rw [e] at hsn
      refine go (k := ?_)
      refine XL.q (.ldRd (j := k * 4) rfl rfl rfl (hr d) (by omega) c1) rfl ?_
      refine go (k := ?_)
      refine XD.q (.ldRd (j := k * 4 + 1) rfl rfl rfl (hr d) (by omega) c2) rfl ?_
      refine go (k := ?_)
      refine XD.q (.ldRd (j := k * 4 + 2) rfl rfl rfl (hr d) (by omega) c3) rfl ?_
      refine go (k := ?_)
      refine XL.call [0] [] rfl rfl rfl rfl rfl (fun _ w _ ho => write_any b lv d a.at_ a.s w hdk (by omega) ho) fun _ _ => ?_
      refine go (k := ?_)
      exact XE.mid (k + 1) [0] ⟨by omega, by omega⟩ ⟨rfl, rfl, rfl, trivial⟩ rfl (by rw [hsn]; rfl)
  · obtain rfl : k = l.length := by omega
    rw [List.take_length] at hd
    refine go (k := ?_)
    exact XE.end0 () [0] rfl trivial rfl rfl (by rw [← hd]; rfl)
end Go.X
