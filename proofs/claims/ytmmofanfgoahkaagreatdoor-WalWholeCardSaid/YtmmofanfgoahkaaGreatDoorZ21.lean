/- DeviceTears: plain laws and the walk. -/
import Derived.Test.YtmmofanfgoahkaaGreatDoorZ20
import Derived.Test.YtmmofanfgoahkaaGreatDoorZ16
namespace Go.X
open Go Go.Proofs Go.RowKit
theorem dstep_inv {ds : List Slot} (h : DInv ds) (a : DAct) : DInv (dstep ds a) := by
  unfold dstep
  split
  · exact settled_inv _ h
  · split
    · exact settled_inv _ h
    · split
      · exact h
      · exact dwr_inv h _ _
theorem druns_inv (l : List DAct) : ∀ ds, DInv ds → DInv (druns ds l) := by
  induction l with
  | nil => intro ds h; exact h
  | cons a l ih => intro ds h; exact ih _ (dstep_inv h a)
theorem freshL_pre {ds : List Slot} (k : Nat) : ∀ n, k ≤ n → n ≤ ds.length → ∃ tl, freshL ds n = freshL ds k ++ tl ∧ ∀ x ∈ tl, (k : Int) ≤ x
  | 0, h, _ => by obtain rfl : k = 0 := by omega
                  exact ⟨[], by simp, fun x h => by cases h⟩
  | n + 1, h, hn => by
    by_cases e : k = n + 1
    · subst e; exact ⟨[], by simp, fun x h => by cases h⟩
    · obtain ⟨tl, h1, h2⟩ := freshL_pre (ds := ds) k n (by omega) (by omega)
      obtain ⟨s, hs⟩ : ∃ s, ds[n]? = some s := ⟨_, List.getElem?_eq_getElem (by omega)⟩
      rw [freshL_snoc hs, h1, List.append_assoc]
      refine ⟨_, rfl, fun x hx => ?_⟩
      rcases List.mem_append.1 hx with hx | hx
      · exact h2 x hx
      · split at hx
        · rw [List.mem_singleton.1 hx]; omega
        · cases hx
theorem freshL_hit {ds : List Slot} {k : Nat} {s : Slot} (hs : ds[k]? = some s) (hf : s.fresh = true) : (freshL ds ds.length)[nF ds k]? = some (k : Int) := by
  have hlt := (List.getElem?_eq_some_iff.1 hs).1
  obtain ⟨tl, h1, _⟩ := freshL_pre (ds := ds) (k + 1) ds.length (by omega) (Nat.le_refl _)
  rw [h1, freshL_snoc hs, if_pos hf, ← nF_freshL k (by omega), List.append_assoc, List.getElem?_append_right (Nat.le_refl _), Nat.sub_self]
  rfl
theorem freshL_miss {ds : List Slot} {k : Nat} {s : Slot} (hs : ds[k]? = some s) (hf : s.fresh = false) {x : Int} (hx : (freshL ds ds.length)[nF ds k]? = some x) : ¬ x = (k : Int) := by
  have hlt := (List.getElem?_eq_some_iff.1 hs).1
  obtain ⟨tl, h1, h2⟩ := freshL_pre (ds := ds) (k + 1) ds.length (by omega) (Nat.le_refl _)
  rw [h1, freshL_snoc hs, if_neg (by simp [hf]), List.append_nil, ← nF_freshL k (by omega), List.getElem?_append_right (Nat.le_refl _), Nat.sub_self] at hx
  have := h2 x (List.mem_of_getElem? hx)
  omega
/-- what a block reads after a crash -/
theorem tears {s : Slot} (hs : s.ok) {m n : Nat} (hm : m ≤ 64) {N : List UInt8} (hN : N = s.read.take m ++ s.firm.drop m) (hx : n = 64 ∨ N[n]? ≠ s.read[n]?) : N.drop n = s.firm.drop n := by
  obtain ⟨h1, h2⟩ := hs
  have hl : (s.read.take m).length = m := by rw [List.length_take]; omega
  by_cases e : n < m
  · exfalso
    rcases hx with hx | hx
    · omega
    · apply hx
      rw [hN, List.getElem?_append_left (by omega), List.getElem?_take, if_pos e]
  · rw [hN, List.drop_append, List.drop_of_length_le (by omega), List.nil_append, hl, List.drop_drop]
    congr 1; omega
end Go.X
/- The laws' own helpers of revertlaw12: few, begins, cutBy, works, run. -/
namespace Go.X
open Go Go.Proofs Go.RowKit
structure LAct where
  what : Int
  at_ : Int
  s : List UInt8
instance : Inhabited LAct := ⟨⟨0, 0, []⟩⟩
def lacell (a : LAct) : List Value := [.int .u8 a.what, iv a.at_, str a.s]
def lacells (l : List LAct) : List Value := l.flatMap lacell
structure LActOk (a : LAct) : Prop where
  what : 0 ≤ a.what ∧ a.what ≤ 255
  at_ : -9223372036854775808 ≤ a.at_ ∧ a.at_ ≤ 9223372036854775807
  s : a.s.length ≤ maxLen
theorem lacells_at : ∀ {l : List LAct} {i : Nat} {a : LAct}, l[i]? = some a → (lacells l)[i * 3]? = some (.int .u8 a.what) ∧ (lacells l)[i * 3 + 1]? = some (iv a.at_) ∧ (lacells l)[i * 3 + 2]? = some (str a.s)
  | [], i, p, h => by simp at h
  | q :: l, 0, p, h => by simp at h; subst h; exact ⟨rfl, rfl, rfl⟩
  | q :: l, i + 1, p, h => by
    have := lacells_at (l := l) (i := i) (by simpa using h)
    rw [show (i + 1) * 3 = i * 3 + 1 + 1 + 1 by omega]
    exact this
def fewL (l : List LAct) : Bool := (l.take 70).all (fun a => decide (a.s.length ≤ 200)) && decide (l.length ≤ 60)
theorem fewL_spec {l : List LAct} (h : fewL l = true) : (∀ a ∈ l, a.s.length ≤ 200) ∧ l.length ≤ 60 := by
  simp only [fewL, Bool.and_eq_true, List.all_eq_true, decide_eq_true_eq] at h
  refine ⟨fun a ha => h.1 a ?_, h.2⟩
  rw [List.take_of_length_le (by omega)]; exact ha
/-! ### begins, cutBy, works -/
theorem Ln.act_oks {cut : Int} {ch : List Int} {x : Ln} {e : Int} {ds' : List Slot} (h : Oks x.ds) (h' : Oks ds') : Oks (x.act cut ch e ds').2.ds := by
  unfold Ln.act
  split
  · exact h
  · split
    · refine settled_ok ?_
      split
      · exact h'
      · exact h
    · exact h'
theorem Ln.act_len {cut : Int} {ch : List Int} {x : Ln} {e : Int} {ds' : List Slot} (h' : ds'.length = x.ds.length) : (x.act cut ch e ds').2.ds.length = x.ds.length := by
  unfold Ln.act
  split
  · rfl
  · split
    · show (settled _ _).length = _
      rw [settled_len]
      split
      · exact h'
      · rfl
    · exact h'
theorem Ln.act_acts {cut : Int} {ch : List Int} {x : Ln} {e : Int} {ds' : List Slot} : (x.act cut ch e ds').2.acts ≤ x.acts + 1 := by
  unfold Ln.act
  split
  · exact Nat.le_succ _
  · split
    · exact Nat.le_refl _
    · exact Nat.le_refl _
structure LOk (x : Ln) (n : Nat) : Prop where
  ok : Oks x.ds
  len : x.ds.length = 256
  acts : x.acts ≤ n
theorem LOk.write {cut : Int} {ch : List Int} {x : Ln} {n : Nat} (h : LOk x n) (k : Int) (s : List UInt8) : LOk (x.write cut ch k s).2 (n + 1) :=
  ⟨Ln.act_oks h.ok (dwr_ok h.ok k s), (Ln.act_len (dwr_len _ _ _)).trans h.len, Nat.le_trans Ln.act_acts (Nat.succ_le_succ h.acts)⟩
theorem LOk.flush {cut : Int} {ch : List Int} {x : Ln} {n : Nat} (h : LOk x n) : LOk (x.flush cut ch).2 (n + 1) :=
  ⟨Ln.act_oks h.ok (settled_ok h.ok), (Ln.act_len (settled_len _ _)).trans h.len, Nat.le_trans Ln.act_acts (Nat.succ_le_succ h.acts)⟩
theorem LOk.mono {x : Ln} {n m : Nat} (h : LOk x n) (hm : n ≤ m) : LOk x m := ⟨h.ok, h.len, Nat.le_trans h.acts hm⟩
abbrev ln0 : Ln := ⟨0, false, List.replicate 256 slot0⟩
theorem ln0_ok : LOk ln0 0 := ⟨rep_ok 256, List.length_replicate, Nat.le_refl _⟩
def cb1 (c : Int) : Int × Ln := Ln.write 1 [c] ln0 5 [97, 98]
def cb2 (c : Int) : Int × Ln := Ln.write 1 [c] (cb1 c).2 6 [99, 100]
def cb3 (c : Int) : Int × Ln := Ln.write 1 [c] (cb2 c).2 7 [101, 102]
def cbOk (c : Int) (five six : List UInt8) : Bool := decide ((cb1 c).1 = 0 ∧ (cb2 c).1 = 8 ∧ (cb3 c).1 = 8 ∧ (cb3 c).2.acts = 2 ∧ (cb3 c).2.down = true ∧ ((cb3 c).2.ds[5]?.map fun s => s.read.take 2) = some five ∧ ((cb3 c).2.ds[6]?.map fun s => s.read.take 2) = some six ∧ ((cb3 c).2.ds[7]?.map fun s => s.read.take 2) = some [0, 0])
theorem cbw1 : cbOk 1 [97, 0] [99, 0] = true := by decide +kernel
theorem cbw2 : cbOk 2 [97, 98] [0, 0] = true := by decide +kernel
end Go.X
/- The reference of package device (revertref11): New, place, Read, Sure. -/
namespace Go.X
open Go Go.Proofs
abbrev Fr := Nat × List UInt8
def frc (x : Fr) : List Value := [iv x.1, str x.2]
def frcs (l : List Fr) : List Value := l.flatMap frc
theorem frcs_len : ∀ l, (frcs l).length = l.length * 2
  | [] => rfl
  | a :: l => by
    have := frcs_len l
    unfold frcs at this ⊢
    simp only [List.flatMap_cons, List.length_append, this, List.length_cons, frc, List.length_nil]; omega
theorem frcs_one (l : List Fr) : (frcs l).all Value.oneCell' = true := by
  induction l with
  | nil => rfl
  | cons s l ih => simp only [frcs, List.flatMap_cons, List.all_append, frc] at ih ⊢; rw [ih]; rfl
theorem frcs_app (a b : List Fr) : frcs (a ++ b) = frcs a ++ frcs b := List.flatMap_append
theorem frcs_at : ∀ {l : List Fr} {i : Nat} {a : Fr}, l[i]? = some a → (frcs l)[i * 2]? = some (iv a.1) ∧ (frcs l)[i * 2 + 1]? = some (str a.2)
  | [], i, p, h => by simp at h
  | q :: l, 0, p, h => by simp at h; subst h; exact ⟨rfl, rfl⟩
  | q :: l, i + 1, p, h => by
    have := frcs_at (l := l) (i := i) (by simpa using h)
    rw [show (i + 1) * 2 = i * 2 + 1 + 1 by omega]
    exact this
abbrev strs (l : List (List UInt8)) : List Value := l.map str
abbrev rdG (bd : Nat) (fv lv : Value) (fs : List (List UInt8)) (rl : List Fr) : Heap := [.blk bd [fv, lv] 87, .sl fv 9 1 (strs fs), .sl lv 154 2 (frcs rl)]
def plc (rl : List Fr) (k : Nat) : Nat := (rl.takeWhile fun x => decide (x.1 < k)).length
def isp (rl : List Fr) (k : Nat) : Bool := match rl[plc rl k]? with
  | some x => decide (x.1 = k)
  | none => false
theorem plc_le (rl : List Fr) (k : Nat) : plc rl k ≤ rl.length := (List.takeWhile_prefix _).length_le
theorem plc_lt : ∀ {rl : List Fr} {k i : Nat} {x : Fr}, i < plc rl k → rl[i]? = some x → x.1 < k
  | [], _, _, _, h, _ => by simp [plc] at h
  | y :: rl, k, i, x, h, hx => by
    unfold plc at h
    by_cases hy : y.1 < k
    · rw [List.takeWhile_cons_of_pos (by simpa using hy)] at h
      cases i with
      | zero => simp at hx; rw [← hx]; exact hy
      | succ i => exact plc_lt (rl := rl) (k := k) (i := i) (by unfold plc; simpa using h) (by simpa using hx)
    · rw [List.takeWhile_cons_of_neg (by simpa using hy)] at h; simp at h
theorem plc_ge : ∀ {rl : List Fr} {k : Nat} {x : Fr}, rl[plc rl k]? = some x → ¬ x.1 < k
  | [], _, _, hx => by simp at hx
  | y :: rl, k, x, hx => by
    unfold plc at hx
    by_cases hy : y.1 < k
    · rw [List.takeWhile_cons_of_pos (by simpa using hy)] at hx
      exact plc_ge (rl := rl) (k := k) (by unfold plc; simpa using hx)
    · rw [List.takeWhile_cons_of_neg (by simpa using hy)] at hx
      simp at hx; rw [← hx]; exact hy
theorem place_ok (bd : Nat) (fv lv : Value) (fs : List (List UInt8)) (rl : List Fr) (k : Nat) (w : World) (hl : rl.length ≤ 100000) (ho : Owns w (rdG bd fv lv fs rl)) : Fx Tryz.prog 92 [ptr bd, iv k] w (Pure w (.tuple #[iv (plc rl k), .bool (isp rl k)])) := by
  have hb : w.heap[bd]? = some (.cells [fv, lv].toArray _ (0, 0)) := ho.ok _ (.head _)
  have hB : bd ∉ ids ([] : Heap) := by simp [X.ids]
  have hrow : RowAt w lv 2 rl.length (frcs rl) := (ho.ok _ (.tail _ (.tail _ (.head _))) : SlOk w lv _ 2 _).rowAt (by decide) (frcs_len rl).symm
  have hr : ∀ L : Heap, Rd w (ids []) L lv 2 rl.length (frcs rl) := fun L => .old hrow (fun _ _ _ => by simp [X.ids])
  clear ho
  refine Fx.of (L0 := []) Tryz.func92 rfl (by kernel_rfl) Tryz.ntmps92 rfl (Owns.nil w) ?_
  refine XC.rdv (hr _) fun ao m hva _ _ haa => ?_
  subst hva
  have c1 : [fv, Value.slice ao rl.length m][0 + 1]? = some (Value.slice ao rl.length m) := rfl
  have hle := plc_le rl k
  refine go (k := ?_)
  refine XC.loop (α := Nat) (fun i => [(0, ptr bd), (1, iv k), (6, iv i)]) (fun _ => []) (fun i => i ≤ plc rl k) (fun i => rl.length - i) 0 [] (Nat.zero_le _) ⟨rfl, rfl, rfl, trivial⟩ rfl rfl ?_
  intro i hi
  by_cases hlt : i < plc rl k
  · obtain ⟨x, hx⟩ : ∃ x, rl[i]? = some x := ⟨_, List.getElem?_eq_getElem (by omega)⟩
    obtain ⟨b1, o1, rfl⟩ : ∃ b off, ao = some ⟨b, off, none⟩ := haa.resolve_left (by omega)
    have hxk := plc_lt hlt hx
    obtain ⟨d1, d2⟩ := frcs_at hx
    have hil : i < rl.length := by omega
    refine go (k := ?_)
    refine XL.q (.ldRd (j := i * 2) rfl rfl rfl (hr _) (by omega) d1) rfl ?_
    refine go (k := ?_)
    exact XE.mid (i + 1) [] ⟨by omega, by omega⟩ ⟨rfl, rfl, rfl, trivial⟩ rfl rfl
  · obtain rfl : i = plc rl k := by omega
    by_cases hend : plc rl k < rl.length
    · obtain ⟨x, hx⟩ : ∃ x, rl[plc rl k]? = some x := ⟨_, List.getElem?_eq_getElem hend⟩
      obtain ⟨b1, o1, rfl⟩ : ∃ b off, ao = some ⟨b, off, none⟩ := haa.resolve_left (by omega)
      have hxk := plc_ge hx
      obtain ⟨d1, d2⟩ := frcs_at hx
      have hisp : isp rl k = decide ((x.1 : Int) = (k : Int)) := by unfold isp; rw [hx]; exact decide_eq_decide.2 (by omega)
      rw [hisp]
      obtain ⟨i, hi2⟩ : ∃ i, i = plc rl k := ⟨_, rfl⟩
      rw [← hi2] at hend hx d1 ⊢
      refine go (k := ?_)
      refine XL.q (.ldRd (j := i * 2) rfl rfl rfl (hr _) (by omega) d1) rfl ?_
      refine go (k := ?_)
      refine XD.qY rfl rfl (decide_eq_true (by omega)) (.ldRd (j := i * 2) rfl rfl rfl (hr _) (by omega) d1) rfl ?_
      refine go (k := ?_)
      exact XE.ret2 () [] rfl rfl rfl trivial rfl rfl rfl
    · have hisp : isp rl k = false := by unfold isp; rw [List.getElem?_eq_none (by omega)]
      rw [hisp]
      obtain ⟨i, hi2⟩ : ∃ i, i = plc rl k := ⟨_, rfl⟩
      rw [← hi2] at hend ⊢
      refine go (k := ?_)
      exact XE.ret2 () [] rfl rfl rfl trivial rfl rfl rfl
/-! ### Read, Sure -/
def rout (fs : List (List UInt8)) (k : Int) : Bool := decide (k < 0 ∨ (fs.length : Int) ≤ k)
theorem rread_out (bd : Nat) (fv lv : Value) (fs : List (List UInt8)) (rl : List Fr) (k : Int) (w : World) (hk : k < 0 ∨ (fs.length : Int) ≤ k) (ho : Owns w (rdG bd fv lv fs rl)) : Fx Tryz.prog 119 [ptr bd, iv k] w (Pure w (.tuple #[str [], iv 2])) := by
  have hb : w.heap[bd]? = some (.cells [fv, lv].toArray _ (0, 0)) := ho.ok _ (.head _)
  have hB : bd ∉ ids ([] : Heap) := by simp [X.ids]
  have hrow : RowAt w fv 1 fs.length (strs fs) := (ho.ok _ (.tail _ (.head _)) : SlOk w fv _ 1 _).rowAt (by decide) (by simp)
  have hr : ∀ L : Heap, Rd w (ids []) L fv 1 fs.length (strs fs) := fun L => .old hrow (fun _ _ _ => by simp [X.ids])
  clear ho
  refine Fx.of (L0 := []) Tryz.func119 rfl (by kernel_rfl) Tryz.ntmps119 rfl (Owns.nil w) ?_
  refine XC.rdv (hr _) fun ao m hva _ _ haa => ?_
  subst hva
  have c0 : [Value.slice ao fs.length m, lv][0 + 0]? = some (Value.slice ao fs.length m) := rfl
  by_cases h0 : k < 0
  · refine go (k := ?_)
    exact XE.ret2 () [] rfl rfl rfl trivial rfl rfl rfl
  · have h1 : (fs.length : Int) ≤ k := by omega
    refine go (k := ?_)
    exact XE.ret2 () [] rfl rfl rfl trivial rfl rfl rfl
/-- what a block reads -/
def rrd (fs : List (List UInt8)) (rl : List Fr) (k : Nat) : List UInt8 := if isp rl k = true then (rl.getD (plc rl k) (0, [])).2 else fs.getD k []
theorem isp_at {rl : List Fr} {k : Nat} (h : isp rl k = true) : ∃ x, rl[plc rl k]? = some x ∧ x.1 = k := by
  unfold isp at h
  cases hx : rl[plc rl k]? with
  | none => rw [hx] at h; cases h
  | some x => rw [hx] at h; exact ⟨x, rfl, by simpa using h⟩
theorem rread_ok (bd : Nat) (fv lv : Value) (fs : List (List UInt8)) (rl : List Fr) (k : Nat) (w : World) (hl : rl.length ≤ 100000) (hlt : k < fs.length) (ho : Owns w (rdG bd fv lv fs rl)) : Fx Tryz.prog 119 [ptr bd, iv k] w (Pure w (.tuple #[str (rrd fs rl k), iv 0])) := by
  have hown : ∀ w', Kept [] w w' → Owns w' (rdG bd fv lv fs rl) := fun w' k => ho.of_kept k (fun _ _ h => by cases h)
  have hb : w.heap[bd]? = some (.cells [fv, lv].toArray _ (0, 0)) := ho.ok _ (.head _)
  have hB : bd ∉ ids ([] : Heap) := by simp [X.ids]
  have hrow : RowAt w fv 1 fs.length (strs fs) := (ho.ok _ (.tail _ (.head _)) : SlOk w fv _ 1 _).rowAt (by decide) (by simp)
  have hr : ∀ L : Heap, Rd w (ids []) L fv 1 fs.length (strs fs) := fun L => .old hrow (fun _ _ _ => by simp [X.ids])
  have hrow2 : RowAt w lv 2 rl.length (frcs rl) := (ho.ok _ (.tail _ (.tail _ (.head _))) : SlOk w lv _ 2 _).rowAt (by decide) (frcs_len rl).symm
  have hr2 : ∀ L : Heap, Rd w (ids []) L lv 2 rl.length (frcs rl) := fun L => .old hrow2 (fun _ _ _ => by simp [X.ids])
  obtain ⟨f, hf⟩ : ∃ f, fs[k]? = some f := ⟨_, List.getElem?_eq_getElem hlt⟩
  refine Fx.of (L0 := []) Tryz.func119 rfl (by kernel_rfl) Tryz.ntmps119 rfl (Owns.nil w) ?_
  refine XC.rdv (hr _) fun ao m hva _ _ haa => ?_
  subst hva
  refine XC.rdv (hr2 _) fun ap mp hvp _ _ hap => ?_
  subst hvp
  obtain ⟨b1, o1, rfl⟩ : ∃ b off, ao = some ⟨b, off, none⟩ := haa.resolve_left (by omega)
  have c0 : [Value.slice (some ⟨b1, o1, none⟩) fs.length m, .slice ap rl.length mp][0 + 0]? = some (Value.slice (some ⟨b1, o1, none⟩) fs.length m) := rfl
  have c1 : [Value.slice (some ⟨b1, o1, none⟩) fs.length m, .slice ap rl.length mp][0 + 1]? = some (.slice ap rl.length mp) := rfl
  refine go (k := ?_)
  refine XL.q (.call rfl rfl fun _ w' hs => place_ok bd _ _ fs rl k w' hl (hown w' hs.kept)) rfl ?_
  cases hi : isp rl k with
  | true =>
    obtain ⟨x, hx, hxk⟩ := isp_at hi
    obtain ⟨d1, d2⟩ := frcs_at hx
    have hpl := (List.getElem?_eq_some_iff.1 hx).1
    obtain ⟨b2, o2, rfl⟩ : ∃ b off, ap = some ⟨b, off, none⟩ := hap.resolve_left (by omega)
    rw [show rrd fs rl k = x.2 from by unfold rrd; rw [if_pos hi, List.getD_eq_getElem?_getD, hx]; rfl]
    refine go (k := ?_)
    refine XL.q (.ldRd (j := plc rl k * 2 + 1) rfl rfl rfl (hr2 _) (by omega) d2) rfl ?_
    refine go (k := ?_)
    exact XE.ret2 () [] rfl rfl rfl trivial rfl rfl rfl
  | false =>
    have hv1 : (strs fs)[k * 1]? = some (str f) := by simp [hf]
    rw [show rrd fs rl k = f from by unfold rrd; rw [if_neg (by rw [hi]; decide), List.getD_eq_getElem?_getD, hf]; rfl]
    refine go (k := ?_)
    refine XL.q (.ldRd (j := k * 1) rfl rfl rfl (hr _) (by omega) hv1) rfl ?_
    refine go (k := ?_)
    exact XE.ret2 () [] rfl rfl rfl trivial rfl rfl rfl
end Go.X
/- The reference of package device (revertref11): Write. -/
namespace Go.X
open Go Go.Proofs
theorem frcs_take : ∀ (l : List Fr) (i : Nat), frcs (l.take i) = (frcs l).take (i * 2)
  | [], i => by simp [frcs]
  | a :: l, 0 => by simp [frcs]
  | a :: l, i + 1 => by
    rw [List.take_succ_cons, show (i + 1) * 2 = i * 2 + 1 + 1 by omega]
    show frc a ++ frcs (l.take i) = (frc a ++ frcs l).take (i * 2 + 1 + 1)
    rw [frcs_take l i]; rfl
theorem frcs_drop : ∀ (l : List Fr) (i : Nat), frcs (l.drop i) = (frcs l).drop (i * 2)
  | [], i => by simp [frcs]
  | a :: l, 0 => by simp
  | a :: l, i + 1 => by
    rw [List.drop_succ_cons, show (i + 1) * 2 = i * 2 + 1 + 1 by omega]
    show frcs (l.drop i) = (frc a ++ frcs l).drop (i * 2 + 1 + 1)
    rw [frcs_drop l i]; rfl
theorem zeros_bytes (n : Nat) : zerosL (Value.int IntKind.u8 0).cells.toList n = bcells (zbytes n) := by
  induction n with
  | zero => rfl
  | succ n ih => rw [zerosL, ih, zbytes, zbytes, List.replicate_succ]; rfl
theorem Quiet.cutL0 {P : Program} [T : Tab P] {r : Option Nat} {w0 : World} {B : List Nat} {n : Nat} {e : Env} {ds : List Deferred} {L : Heap} {t ty el : TypeId} {x lo : Operand} {k : IntKind} {ao : Option Addr} {m c s by' : Nat} {z : Value} (hx : ev e x = some (.slice ao m c)) (hl : ev e lo = some (.int k ((0 : Nat) : Int)))
    (ht : T.und t = some (.slice el)) (hi' : T.inf el = some (s, by', z)) : Quiet P r w0 B n ds L (.slice t x (some lo) none none) ty e (.slice ao m c) :=
  .run (by simp) fun ρ d pos af g w hρ _ _ => by
    simp only [execOp, hρ x (by simp [Op.operands]) _ hx, hρ lo (by simp [Op.operands]) _ hl, Option.map, Instr.sliceAt, Sem.run_bind, run_und ht, Result.andThen, Instr.slice,
      Instr.sliceBounds, Sem.run_pure, Option.isSome]
    simp only [run_bound (Nat.zero_le m), Bool.false_eq_true, if_false, run_size hi', Nat.sub_zero, Nat.zero_mul]
    cases ao with
    | none => simp
    | some a => simp [Addr.add]
def rwr (rl : List Fr) (k : Nat) (s : List UInt8) : List Fr := rl.take (plc rl k) ++ [(k, padTo s)] ++ rl.drop (if isp rl k = true then plc rl k + 1 else plc rl k)
set_option maxHeartbeats 1000000 in
theorem rwrite_ok (bd : Nat) (fv lv : Value) (fs : List (List UInt8)) (rl : List Fr) (k : Nat) (s : List UInt8) (w : World) (hl : rl.length ≤ 100000) (hlt : k < fs.length) (hs : s.length ≤ 64) (ho : Owns w (rdG bd fv lv fs rl)) :
    Fx Tryz.prog 53 [ptr bd, iv k, str s] w (Ret w (rdG bd fv lv fs rl) (fun _ : Value => iv 0) (fun v => rdG bd fv v fs (rwr rl k s)) (fun _ => True)) := by
  refine Fx.of Tryz.func53 rfl (by kernel_rfl) Tryz.ntmps53 rfl ho ?_
  refine XC.rdv (.sl (m := fs.length) (.tail _ (.head _)) (by decide) (by simp)) fun ao m hva _ _ haa => ?_
  subst hva
  refine go (k := ?_)
  refine XL.q (.call (v := .tuple #[iv (plc rl k), .bool (isp rl k)]) rfl rfl fun _ w' hs => place_ok bd _ _ fs rl k w' hl hs.own) rfl ?_
  have hpl := plc_le rl k
  have hpi : isp rl k = true → plc rl k < rl.length := fun h => by
    obtain ⟨x, hx, _⟩ := isp_at h
    exact (List.getElem?_eq_some_iff.1 hx).1
  unfold rwr
  obtain ⟨p, hp⟩ : ∃ p, p = plc rl k := ⟨_, rfl⟩
  obtain ⟨i, hi⟩ : ∃ i, i = isp rl k := ⟨_, rfl⟩
  rw [← hp, ← hi] at hpi ⊢
  rw [← hp] at hpl
  clear hp hi
  by_cases hne : 0 < rl.length
  · refine XL.openSl (m := rl.length) (.tail _ (.tail _ (.head _))) (by decide) (frcs_len rl).symm hne (fun _ _ => .there (.there .here)) fun b1 cs cap hv hc hcl hct => ?_
    subst hv
    have hcut : ∀ j q, j + q ≤ rl.length → cut cs (0 + j * 2) (q * 2) = some (frcs ((rl.drop j).take q)) := by
      intro j q hjq
      rw [cut_some (by omega), frcs_take, frcs_drop, ← hct, frcs_len]
      congr 1
      rw [show 0 + j * 2 = j * 2 by omega, List.drop_take, List.take_take, Nat.min_eq_left (by omega)]
    have hr1 := hcut 0 p (by omega)
    rw [List.drop_zero] at hr1
    have hl1 : (frcs (rl.take p)).length = p * 2 := by rw [frcs_len, List.length_take]; omega
    refine go (k := ?_)
    refine XL.make (.app (news := frcs (rl.take p)) rfl rfl rfl rfl rfl rfl (by decide) (.blk (.tail _ (.tail _ (.head _))) hl1.symm (by omega) (by rw [hl1]; exact hr1)) (frcs_one _) (by omega) (by omega)) rfl fun v1 H hH => ?_
    subst hH
    refine go (k := ?_)
    rw [show (64 - (s.length : Int)) = ((64 - s.length : Nat) : Int) from by omega]
    refine XL.make (.mslice (len := 64 - s.length) (cap := 64 - s.length) rfl rfl rfl rfl rfl (Nat.le_refl _) (by omega) (by omega)) rfl fun v H hv => ?_
    obtain ⟨mb, rfl, rfl⟩ := hv
    rw [zeros_bytes]
    refine go (k := ?_)
    refine XL.q (.bytesStr (m := 64 - s.length) (l := zbytes (64 - s.length)) rfl rfl rfl rfl (.blk (.head _) (by rw [bcells_len, zbytes_len, Nat.mul_one]) (Nat.le_refl _) (by rw [cut_some (by omega), List.drop_zero, List.take_length]))) rfl ?_
    have hz : (zbytes (64 - s.length)).length = 64 - s.length := zbytes_len _
    refine go (k := ?_)
    refine XL.make (.bslice rfl rfl rfl rfl rfl rfl) rfl fun _ _ hb => ?_
    obtain ⟨bs, rfl, rfl⟩ := hb
    refine XL.app (m := 1) (news := frcs [(k, padTo s)]) (L' := fun v2 => _ :: _ :: .sl v2 154 2 (frcs (rl.take p) ++ frcs [(k, padTo s)]) :: _) rfl rfl rfl rfl rfl rfl (by decide) (.tail _ (.tail _ (.head _)))
      (.blk (.head _) rfl (Nat.le_refl _) rfl) rfl (by rw [hl1]; simp only [frcs_len, List.length_singleton]; omega) (by rw [hl1]; simp only [frcs_len, List.length_singleton]; omega) (fun v2 => .there (.there .here)) rfl fun v2 => ?_
    rw [← frcs_app]
    have hA : (frcs (rl.take p ++ [(k, padTo s)])).length = p * 2 + 2 := by rw [frcs_len, List.length_append, List.length_take, List.length_singleton]; omega
    cases i with
    | true =>
      have hp1 := hpi rfl
      rw [if_pos rfl]
      have hr2 := hcut (p + 1) (rl.length - (p + 1)) (by omega)
      rw [List.take_of_length_le (by simp)] at hr2
      have hl2 : (frcs (rl.drop (p + 1))).length = (rl.length - (p + 1)) * 2 := by rw [frcs_len, List.length_drop]
      refine go (k := ?_)
      refine XL.q (.cutX (l := p + 1) (h := rl.length) (q := cap) rfl (.inl ⟨_, _, rfl, rfl⟩) (.inr ⟨rfl, rfl, rfl⟩) (.inr ⟨rfl, rfl⟩) rfl rfl (by omega) hc (Nat.le_refl _)) rfl ?_
      refine XL.app (news := frcs (rl.drop (p + 1))) (L' := fun v' => _ :: _ :: .sl v' 154 2 (frcs (rl.take p ++ [(k, padTo s)]) ++ frcs (rl.drop (p + 1))) :: _)
        rfl rfl rfl rfl rfl rfl (by decide) (.tail _ (.tail _ (.head _))) (.cut (.tail _ (.tail _ (.tail _ (.tail _ (.tail _ (.head _)))))) hl2.symm (by omega) (by omega) (by rw [hl2]; exact hr2)) (frcs_one _) (by omega) (by omega) (fun _ => .there (.there .here)) rfl fun v' => ?_
      rw [← frcs_app]
      refine XL.slv (.tail _ (.tail _ (.head _))) fun ao' q' m' hv' _ _ => ?_
      subst hv'
      refine go (k := ?_)
      exact XE.ret1 (.slice ao' q' m') [3, 4, 2] rfl rfl trivial rfl rfl rfl
    | false =>
      rw [if_neg (by decide)]
      have hr2 := hcut p (rl.length - p) (by omega)
      rw [List.take_of_length_le (by simp)] at hr2
      have hl2 : (frcs (rl.drop p)).length = (rl.length - p) * 2 := by rw [frcs_len, List.length_drop]
      refine go (k := ?_)
      refine XL.q (.cutX (l := p) (h := rl.length) (q := cap) rfl (.inl ⟨_, _, rfl, rfl⟩) (.inr ⟨rfl, rfl, rfl⟩) (.inr ⟨rfl, rfl⟩) rfl rfl (by omega) hc (Nat.le_refl _)) rfl ?_
      refine XL.app (news := frcs (rl.drop p)) (L' := fun v' => _ :: _ :: .sl v' 154 2 (frcs (rl.take p ++ [(k, padTo s)]) ++ frcs (rl.drop p)) :: _)
        rfl rfl rfl rfl rfl rfl (by decide) (.tail _ (.tail _ (.head _))) (.cut (.tail _ (.tail _ (.tail _ (.tail _ (.tail _ (.head _)))))) hl2.symm (by omega) (by omega) (by rw [hl2]; exact hr2)) (frcs_one _) (by omega) (by omega) (fun _ => .there (.there .here)) rfl fun v' => ?_
      rw [← frcs_app]
      refine XL.slv (.tail _ (.tail _ (.head _))) fun ao' q' m' hv' _ _ => ?_
      subst hv'
      refine go (k := ?_)
      exact XE.ret1 (.slice ao' q' m') [3, 4, 2] rfl rfl trivial rfl rfl rfl
  · obtain rfl : rl = [] := List.eq_nil_of_length_eq_zero (by omega)
    obtain rfl : p = 0 := by simpa using hpl
    cases i with
    | true => exact absurd (hpi rfl) (by simp)
    | false =>
      refine XL.rdv (.sl (m := 0) (.tail _ (.tail _ (.head _))) (by decide) rfl) fun ap mp hvp _ _ hap => ?_
      subst hvp
      refine go (k := ?_)
      refine XL.make (.app (m := 0) (news := frcs []) rfl rfl rfl rfl rfl rfl (by decide) .empty rfl (by simp [frcs]) (by simp [frcs])) rfl fun v1 H hH => ?_
      subst hH
      refine go (k := ?_)
      rw [show (64 - (s.length : Int)) = ((64 - s.length : Nat) : Int) from by omega]
      refine XL.make (.mslice (len := 64 - s.length) (cap := 64 - s.length) rfl rfl rfl rfl rfl (Nat.le_refl _) (by omega) (by omega)) rfl fun v H hv => ?_
      obtain ⟨mb, rfl, rfl⟩ := hv
      rw [zeros_bytes]
      refine go (k := ?_)
      refine XL.q (.bytesStr (m := 64 - s.length) (l := zbytes (64 - s.length)) rfl rfl rfl rfl (.blk (.head _) (by rw [bcells_len, zbytes_len, Nat.mul_one]) (Nat.le_refl _) (by rw [cut_some (by omega), List.drop_zero, List.take_length]))) rfl ?_
      have hz : (zbytes (64 - s.length)).length = 64 - s.length := zbytes_len _
      refine go (k := ?_)
      refine XL.make (.bslice rfl rfl rfl rfl rfl rfl) rfl fun _ _ hb => ?_
      obtain ⟨bs, rfl, rfl⟩ := hb
      refine XL.app (m := 1) (news := frcs [(k, padTo s)]) (L' := fun v2 => _ :: _ :: .sl v2 154 2 (frcs [] ++ frcs [(k, padTo s)]) :: _) rfl rfl rfl rfl rfl rfl (by decide) (.tail _ (.tail _ (.head _)))
        (.blk (.head _) rfl (Nat.le_refl _) rfl) rfl (by simp [frcs, frc]) (by simp [frcs, frc]) (fun v2 => .there (.there .here)) rfl fun v2 => ?_
      rw [← frcs_app]
      refine go (k := ?_)
      refine XL.q (.cutL0 rfl rfl rfl rfl) rfl ?_
      refine XL.app (m := 0) (news := frcs []) (L' := fun v' => _ :: _ :: .sl v' 154 2 (frcs ([] ++ [(k, padTo s)]) ++ frcs []) :: _)
        rfl rfl rfl rfl rfl rfl (by decide) (.tail _ (.tail _ (.head _))) .empty rfl (by simp [frcs, frc]) (by simp [frcs, frc]) (fun _ => .there (.there .here)) rfl fun v' => ?_
      rw [← frcs_app]
      refine XL.slv (.tail _ (.tail _ (.head _))) fun ao' q' m' hv' _ _ => ?_
      subst hv'
      refine go (k := ?_)
      exact XE.ret1 (.slice ao' q' m') [3, 4, 2] rfl rfl trivial rfl rfl rfl
theorem rwrite_err (bd : Nat) (fv lv : Value) (fs : List (List UInt8)) (rl : List Fr) (k : Int) (s : List UInt8) (w : World) (hk : k < 0 ∨ (fs.length : Int) ≤ k) (ho : Owns w (rdG bd fv lv fs rl)) : Fx Tryz.prog 53 [ptr bd, iv k, str s] w (Pure w (iv 2)) := by
  have hb : w.heap[bd]? = some (.cells [fv, lv].toArray _ (0, 0)) := ho.ok _ (.head _)
  have hB : bd ∉ ids ([] : Heap) := by simp [X.ids]
  have hrow : RowAt w fv 1 fs.length (strs fs) := (ho.ok _ (.tail _ (.head _)) : SlOk w fv _ 1 _).rowAt (by decide) (by simp)
  have hr : ∀ L : Heap, Rd w (ids []) L fv 1 fs.length (strs fs) := fun L => .old hrow (fun _ _ _ => by simp [X.ids])
  clear ho
  refine Fx.of (L0 := []) Tryz.func53 rfl (by kernel_rfl) Tryz.ntmps53 rfl (Owns.nil w) ?_
  refine XC.rdv (hr _) fun ao m hva _ _ haa => ?_
  subst hva
  have c0 : [Value.slice ao fs.length m, lv][0 + 0]? = some (Value.slice ao fs.length m) := rfl
  by_cases h0 : k < 0
  · refine go (k := ?_)
    exact XE.ret1 () [] rfl rfl trivial rfl rfl rfl
  · have h1 : (fs.length : Int) ≤ k := by omega
    refine go (k := ?_)
    exact XE.ret1 () [] rfl rfl trivial rfl rfl rfl
theorem rwrite_long (bd : Nat) (fv lv : Value) (fs : List (List UInt8)) (rl : List Fr) (k : Nat) (s : List UInt8) (w : World) (hk : k < fs.length) (hs : 64 < s.length) (ho : Owns w (rdG bd fv lv fs rl)) : Fx Tryz.prog 53 [ptr bd, iv k, str s] w (Pure w (iv 3)) := by
  have hb : w.heap[bd]? = some (.cells [fv, lv].toArray _ (0, 0)) := ho.ok _ (.head _)
  have hB : bd ∉ ids ([] : Heap) := by simp [X.ids]
  have hrow : RowAt w fv 1 fs.length (strs fs) := (ho.ok _ (.tail _ (.head _)) : SlOk w fv _ 1 _).rowAt (by decide) (by simp)
  have hr : ∀ L : Heap, Rd w (ids []) L fv 1 fs.length (strs fs) := fun L => .old hrow (fun _ _ _ => by simp [X.ids])
  clear ho
  refine Fx.of (L0 := []) Tryz.func53 rfl (by kernel_rfl) Tryz.ntmps53 rfl (Owns.nil w) ?_
  refine XC.rdv (hr _) fun ao m hva _ _ haa => ?_
  subst hva
  have c0 : [Value.slice ao fs.length m, lv][0 + 0]? = some (Value.slice ao fs.length m) := rfl
  refine go (k := ?_)
  exact XE.ret1 () [] rfl rfl trivial rfl rfl rfl
end Go.X
