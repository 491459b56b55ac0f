/- The reference of package device (revertref11): New, place, Read, Sure. -/
import Derived.Test.YtckelpenodabdaaDevJ
namespace Go.X
open Go Go.Proofs
abbrev Fr := Nat × List UInt8
def frc (x : Fr) : List Value := [iv x.1, str x.2]
def frcs (l : List Fr) : List Value := l.flatMap frc
theorem frcs_len : ∀ l, (frcs l).length = l.length * 2
  | [] => rfl
  | a :: l => by
    have := frcs_len l
    unfold frcs at this ⊢
    simp only [List.flatMap_cons, List.length_append, this, List.length_cons, frc, List.length_nil]; omega
theorem frcs_one (l : List Fr) : (frcs l).all Value.oneCell' = true := by
  induction l with
  | nil => rfl
  | cons s l ih => simp only [frcs, List.flatMap_cons, List.all_append, frc] at ih ⊢; rw [ih]; rfl
theorem frcs_app (a b : List Fr) : frcs (a ++ b) = frcs a ++ frcs b := List.flatMap_append
theorem frcs_at : ∀ {l : List Fr} {i : Nat} {a : Fr}, l[i]? = some a → (frcs l)[i * 2]? = some (iv a.1) ∧ (frcs l)[i * 2 + 1]? = some (str a.2)
  | [], i, p, h => by simp at h
  | q :: l, 0, p, h => by simp at h; subst h; exact ⟨rfl, rfl⟩
  | q :: l, i + 1, p, h => by
    have := frcs_at (l := l) (i := i) (by simpa using h)
    rw [show (i + 1) * 2 = i * 2 + 1 + 1 by omega]
    exact this
abbrev strs (l : List (List UInt8)) : List Value := l.map str
abbrev rdG (bd : Nat) (fv lv : Value) (fs : List (List UInt8)) (rl : List Fr) : Heap := [.blk bd [fv, lv] 52, .sl fv 9 1 (strs fs), .sl lv 54 2 (frcs rl)]
def plc (rl : List Fr) (k : Nat) : Nat := (rl.takeWhile fun x => decide (x.1 < k)).length
def isp (rl : List Fr) (k : Nat) : Bool := match rl[plc rl k]? with
  | some x => decide (x.1 = k)
  | none => false
theorem plc_le (rl : List Fr) (k : Nat) : plc rl k ≤ rl.length := (List.takeWhile_prefix _).length_le
theorem plc_lt : ∀ {rl : List Fr} {k i : Nat} {x : Fr}, i < plc rl k → rl[i]? = some x → x.1 < k
  | [], _, _, _, h, _ => by simp [plc] at h
  | y :: rl, k, i, x, h, hx => by
    unfold plc at h
    by_cases hy : y.1 < k
    · rw [List.takeWhile_cons_of_pos (by simpa using hy)] at h
      cases i with
      | zero => simp at hx; rw [← hx]; exact hy
      | succ i => exact plc_lt (rl := rl) (k := k) (i := i) (by unfold plc; simpa using h) (by simpa using hx)
    · rw [List.takeWhile_cons_of_neg (by simpa using hy)] at h; simp at h
theorem plc_ge : ∀ {rl : List Fr} {k : Nat} {x : Fr}, rl[plc rl k]? = some x → ¬ x.1 < k
  | [], _, _, hx => by simp at hx
  | y :: rl, k, x, hx => by
    unfold plc at hx
    by_cases hy : y.1 < k
    · rw [List.takeWhile_cons_of_pos (by simpa using hy)] at hx
      exact plc_ge (rl := rl) (k := k) (by unfold plc; simpa using hx)
    · rw [List.takeWhile_cons_of_neg (by simpa using hy)] at hx
      simp at hx; rw [← hx]; exact hy
theorem place_ok (bd : Nat) (fv lv : Value) (fs : List (List UInt8)) (rl : List Fr) (k : Nat) (w : World) (hl : rl.length ≤ 100000) (ho : Owns w (rdG bd fv lv fs rl)) : Fx Try.prog 74 [ptr bd, iv k] w (Pure w (.tuple #[iv (plc rl k), .bool (isp rl k)])) := by
  have hb : w.heap[bd]? = some (.cells [fv, lv].toArray _ (0, 0)) := ho.ok _ (.head _)
  have hB : bd ∉ ids ([] : Heap) := by simp [X.ids]
  have hrow : RowAt w lv 2 rl.length (frcs rl) := (ho.ok _ (.tail _ (.tail _ (.head _))) : SlOk w lv _ 2 _).rowAt (by decide) (frcs_len rl).symm
  have hr : ∀ L : Heap, Rd w (ids []) L lv 2 rl.length (frcs rl) := fun L => .old hrow (fun _ _ _ => by simp [X.ids])
  clear ho
  refine Fx.of (L0 := []) Try.func74 rfl (by kernel_rfl) Try.ntmps74 rfl (Owns.nil w) ?_
  refine XC.rdv (hr _) fun ao m hva _ _ haa => ?_
  subst hva
  have c1 : [fv, Value.slice ao rl.length m][0 + 1]? = some (Value.slice ao rl.length m) := rfl
  have hle := plc_le rl k
  refine go (k := ?_)
  refine XC.loop (α := Nat) (fun i => [(0, ptr bd), (1, iv k), (6, iv i)]) (fun _ => []) (fun i => i ≤ plc rl k) (fun i => rl.length - i) 0 [] (Nat.zero_le _) ⟨rfl, rfl, rfl, trivial⟩ rfl rfl ?_
  intro i hi
  by_cases hlt : i < plc rl k
  · obtain ⟨x, hx⟩ : ∃ x, rl[i]? = some x := ⟨_, List.getElem?_eq_getElem (by omega)⟩
    obtain ⟨b1, o1, rfl⟩ : ∃ b off, ao = some ⟨b, off, none⟩ := haa.resolve_left (by omega)
    have hxk := plc_lt hlt hx
    obtain ⟨d1, d2⟩ := frcs_at hx
    have hil : i < rl.length := by omega
    refine go (k := ?_)
    refine XL.q (.ldRd (j := i * 2) rfl rfl rfl (hr _) (by omega) d1) rfl ?_
    refine go (k := ?_)
    exact XE.mid (i + 1) [] ⟨by omega, by omega⟩ ⟨rfl, rfl, rfl, trivial⟩ rfl rfl
  · obtain rfl : i = plc rl k := by omega
    by_cases hend : plc rl k < rl.length
    · obtain ⟨x, hx⟩ : ∃ x, rl[plc rl k]? = some x := ⟨_, List.getElem?_eq_getElem hend⟩
      obtain ⟨b1, o1, rfl⟩ : ∃ b off, ao = some ⟨b, off, none⟩ := haa.resolve_left (by omega)
      have hxk := plc_ge hx
      obtain ⟨d1, d2⟩ := frcs_at hx
      have hisp : isp rl k = decide ((x.1 : Int) = (k : Int)) := by unfold isp; rw [hx]; exact decide_eq_decide.2 (by omega)
      rw [hisp]
      obtain ⟨i, hi2⟩ : ∃ i, i = plc rl k := ⟨_, rfl⟩
      rw [← hi2] at hend hx d1 ⊢
      refine go (k := ?_)
      refine XL.q (.ldRd (j := i * 2) rfl rfl rfl (hr _) (by omega) d1) rfl ?_
      refine go (k := ?_)
      refine XD.qY rfl rfl (decide_eq_true (by omega)) (.ldRd (j := i * 2) rfl rfl rfl (hr _) (by omega) d1) rfl ?_
      refine go (k := ?_)
      exact XE.ret2 () [] rfl rfl rfl trivial rfl rfl rfl
    · have hisp : isp rl k = false := by unfold isp; rw [List.getElem?_eq_none (by omega)]
      rw [hisp]
      obtain ⟨i, hi2⟩ : ∃ i, i = plc rl k := ⟨_, rfl⟩
      rw [← hi2] at hend ⊢
      refine go (k := ?_)
      exact XE.ret2 () [] rfl rfl rfl trivial rfl rfl rfl
/-! ### Read, Sure -/
def rout (fs : List (List UInt8)) (k : Int) : Bool := decide (k < 0 ∨ (fs.length : Int) ≤ k)
theorem rsure_out (bd : Nat) (fv lv : Value) (fs : List (List UInt8)) (rl : List Fr) (k : Int) (w : World) (hk : k < 0 ∨ (fs.length : Int) ≤ k) (ho : Owns w (rdG bd fv lv fs rl)) : Fx Try.prog 57 [ptr bd, iv k] w (Pure w (.tuple #[str [], iv 2])) := by
  have hb : w.heap[bd]? = some (.cells [fv, lv].toArray _ (0, 0)) := ho.ok _ (.head _)
  have hB : bd ∉ ids ([] : Heap) := by simp [X.ids]
  have hrow : RowAt w fv 1 fs.length (strs fs) := (ho.ok _ (.tail _ (.head _)) : SlOk w fv _ 1 _).rowAt (by decide) (by simp)
  have hr : ∀ L : Heap, Rd w (ids []) L fv 1 fs.length (strs fs) := fun L => .old hrow (fun _ _ _ => by simp [X.ids])
  clear ho
  refine Fx.of (L0 := []) Try.func57 rfl (by kernel_rfl) Try.ntmps57 rfl (Owns.nil w) ?_
  refine XC.rdv (hr _) fun ao m hva _ _ haa => ?_
  subst hva
  have c0 : [Value.slice ao fs.length m, lv][0 + 0]? = some (Value.slice ao fs.length m) := rfl
  by_cases h0 : k < 0
  · refine go (k := ?_)
    exact XE.ret2 () [] rfl rfl rfl trivial rfl rfl rfl
  · have h1 : (fs.length : Int) ≤ k := by omega
    refine go (k := ?_)
    exact XE.ret2 () [] rfl rfl rfl trivial rfl rfl rfl
theorem rsure_ok (bd : Nat) (fv lv : Value) (fs : List (List UInt8)) (rl : List Fr) (k : Nat) (f : List UInt8) (w : World) (hf : fs[k]? = some f) (ho : Owns w (rdG bd fv lv fs rl)) : Fx Try.prog 57 [ptr bd, iv k] w (Pure w (.tuple #[str f, iv 0])) := by
  have hb : w.heap[bd]? = some (.cells [fv, lv].toArray _ (0, 0)) := ho.ok _ (.head _)
  have hB : bd ∉ ids ([] : Heap) := by simp [X.ids]
  have hrow : RowAt w fv 1 fs.length (strs fs) := (ho.ok _ (.tail _ (.head _)) : SlOk w fv _ 1 _).rowAt (by decide) (by simp)
  have hr : ∀ L : Heap, Rd w (ids []) L fv 1 fs.length (strs fs) := fun L => .old hrow (fun _ _ _ => by simp [X.ids])
  clear ho
  have hlt := (List.getElem?_eq_some_iff.1 hf).1
  refine Fx.of (L0 := []) Try.func57 rfl (by kernel_rfl) Try.ntmps57 rfl (Owns.nil w) ?_
  refine XC.rdv (hr _) fun ao m hva _ _ haa => ?_
  subst hva
  obtain ⟨b1, o1, rfl⟩ : ∃ b off, ao = some ⟨b, off, none⟩ := haa.resolve_left (by omega)
  have c0 : [Value.slice (some ⟨b1, o1, none⟩) fs.length m, lv][0 + 0]? = some (Value.slice (some ⟨b1, o1, none⟩) fs.length m) := rfl
  have hv1 : (strs fs)[k * 1]? = some (str f) := by simp [hf]
  refine go (k := ?_)
  refine XL.q (.ldRd (j := k * 1) rfl rfl rfl (hr _) (by omega) hv1) rfl ?_
  refine go (k := ?_)
  exact XE.ret2 () [] rfl rfl rfl trivial rfl rfl rfl
theorem rread_out (bd : Nat) (fv lv : Value) (fs : List (List UInt8)) (rl : List Fr) (k : Int) (w : World) (hk : k < 0 ∨ (fs.length : Int) ≤ k) (ho : Owns w (rdG bd fv lv fs rl)) : Fx Try.prog 56 [ptr bd, iv k] w (Pure w (.tuple #[str [], iv 2])) := by
  have hb : w.heap[bd]? = some (.cells [fv, lv].toArray _ (0, 0)) := ho.ok _ (.head _)
  have hB : bd ∉ ids ([] : Heap) := by simp [X.ids]
  have hrow : RowAt w fv 1 fs.length (strs fs) := (ho.ok _ (.tail _ (.head _)) : SlOk w fv _ 1 _).rowAt (by decide) (by simp)
  have hr : ∀ L : Heap, Rd w (ids []) L fv 1 fs.length (strs fs) := fun L => .old hrow (fun _ _ _ => by simp [X.ids])
  clear ho
  refine Fx.of (L0 := []) Try.func56 rfl (by kernel_rfl) Try.ntmps56 rfl (Owns.nil w) ?_
  refine XC.rdv (hr _) fun ao m hva _ _ haa => ?_
  subst hva
  have c0 : [Value.slice ao fs.length m, lv][0 + 0]? = some (Value.slice ao fs.length m) := rfl
  by_cases h0 : k < 0
  · refine go (k := ?_)
    exact XE.ret2 () [] rfl rfl rfl trivial rfl rfl rfl
  · have h1 : (fs.length : Int) ≤ k := by omega
    refine go (k := ?_)
    exact XE.ret2 () [] rfl rfl rfl trivial rfl rfl rfl
/-- what a block reads -/
def rrd (fs : List (List UInt8)) (rl : List Fr) (k : Nat) : List UInt8 := if isp rl k = true then (rl.getD (plc rl k) (0, [])).2 else fs.getD k []
theorem isp_at {rl : List Fr} {k : Nat} (h : isp rl k = true) : ∃ x, rl[plc rl k]? = some x ∧ x.1 = k := by
  unfold isp at h
  cases hx : rl[plc rl k]? with
  | none => rw [hx] at h; cases h
  | some x => rw [hx] at h; exact ⟨x, rfl, by simpa using h⟩
theorem rread_ok (bd : Nat) (fv lv : Value) (fs : List (List UInt8)) (rl : List Fr) (k : Nat) (w : World) (hl : rl.length ≤ 100000) (hlt : k < fs.length) (ho : Owns w (rdG bd fv lv fs rl)) : Fx Try.prog 56 [ptr bd, iv k] w (Pure w (.tuple #[str (rrd fs rl k), iv 0])) := by
  have hown : ∀ w', Kept [] w w' → Owns w' (rdG bd fv lv fs rl) := fun w' k => ho.of_kept k (fun _ _ h => by cases h)
  have hb : w.heap[bd]? = some (.cells [fv, lv].toArray _ (0, 0)) := ho.ok _ (.head _)
  have hB : bd ∉ ids ([] : Heap) := by simp [X.ids]
  have hrow : RowAt w fv 1 fs.length (strs fs) := (ho.ok _ (.tail _ (.head _)) : SlOk w fv _ 1 _).rowAt (by decide) (by simp)
  have hr : ∀ L : Heap, Rd w (ids []) L fv 1 fs.length (strs fs) := fun L => .old hrow (fun _ _ _ => by simp [X.ids])
  have hrow2 : RowAt w lv 2 rl.length (frcs rl) := (ho.ok _ (.tail _ (.tail _ (.head _))) : SlOk w lv _ 2 _).rowAt (by decide) (frcs_len rl).symm
  have hr2 : ∀ L : Heap, Rd w (ids []) L lv 2 rl.length (frcs rl) := fun L => .old hrow2 (fun _ _ _ => by simp [X.ids])
  obtain ⟨f, hf⟩ : ∃ f, fs[k]? = some f := ⟨_, List.getElem?_eq_getElem hlt⟩
  refine Fx.of (L0 := []) Try.func56 rfl (by kernel_rfl) Try.ntmps56 rfl (Owns.nil w) ?_
  refine XC.rdv (hr _) fun ao m hva _ _ haa => ?_
  subst hva
  refine XC.rdv (hr2 _) fun ap mp hvp _ _ hap => ?_
  subst hvp
  obtain ⟨b1, o1, rfl⟩ : ∃ b off, ao = some ⟨b, off, none⟩ := haa.resolve_left (by omega)
  have c0 : [Value.slice (some ⟨b1, o1, none⟩) fs.length m, .slice ap rl.length mp][0 + 0]? = some (Value.slice (some ⟨b1, o1, none⟩) fs.length m) := rfl
  have c1 : [Value.slice (some ⟨b1, o1, none⟩) fs.length m, .slice ap rl.length mp][0 + 1]? = some (.slice ap rl.length mp) := rfl
  refine go (k := ?_)
  refine XL.q (.call rfl rfl fun _ w' hs => place_ok bd _ _ fs rl k w' hl (hown w' hs.kept)) rfl ?_
  cases hi : isp rl k with
  | true =>
    obtain ⟨x, hx, hxk⟩ := isp_at hi
    obtain ⟨d1, d2⟩ := frcs_at hx
    have hpl := (List.getElem?_eq_some_iff.1 hx).1
    obtain ⟨b2, o2, rfl⟩ : ∃ b off, ap = some ⟨b, off, none⟩ := hap.resolve_left (by omega)
    rw [show rrd fs rl k = x.2 from by unfold rrd; rw [if_pos hi, List.getD_eq_getElem?_getD, hx]; rfl]
    refine go (k := ?_)
    refine XL.q (.ldRd (j := plc rl k * 2 + 1) rfl rfl rfl (hr2 _) (by omega) d2) rfl ?_
    refine go (k := ?_)
    exact XE.ret2 () [] rfl rfl rfl trivial rfl rfl rfl
  | false =>
    have hv1 : (strs fs)[k * 1]? = some (str f) := by simp [hf]
    rw [show rrd fs rl k = f from by unfold rrd; rw [if_neg (by rw [hi]; decide), List.getD_eq_getElem?_getD, hf]; rfl]
    refine go (k := ?_)
    refine XL.q (.ldRd (j := k * 1) rfl rfl rfl (hr _) (by omega) hv1) rfl ?_
    refine go (k := ?_)
    exact XE.ret2 () [] rfl rfl rfl trivial rfl rfl rfl
end Go.X
