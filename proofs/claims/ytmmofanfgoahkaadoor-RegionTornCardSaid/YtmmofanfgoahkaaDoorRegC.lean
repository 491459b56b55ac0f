/- Package region: there, may, did, Left, Format. -/
import Derived.Test.YtmmofanfgoahkaaDoorRegB
import Derived.Test.YtmmofanfgoahkaaDoorDevI
namespace Go.X
open Go Go.Proofs
/-- there -/
def thr (m : Nat) (a n : Int) : Int := if a < 0 ∨ n < 2 ∨ 65536 < n ∨ (m : Int) < n ∨ (m : Int) - n < a then 2 else 0
theorem there_ok (bl b : Nat) (lv vc : Value) (cut : Int) (ch : List Int) (x : Ln) (a n : Int) (w : World) (hk : Oks x.ds) (hn : x.ds.length ≤ 100000) (ho : Owns w (lnX bl b lv vc cut ch x)) :
    Fx Tryd.prog 28 [ptr bl, iv a, iv n] w (Pure w (iv (thr x.ds.length a n))) := by
  have hown : ∀ w', Kept [] w w' → Owns w' (lnX bl b lv vc cut ch x) := fun w' k => ho.of_kept k (fun _ _ h => by cases h)
  have hdev : ∀ w', Kept [] w w' → Fx Tryd.prog 52 [ptr bl] w' (Pure w' (ptr b)) := fun w' k => ldev_at bl b cut vc x.acts x.down _ _ w' ((hown w' k).ok _ (.head _))
  refine Fx.of (L0 := []) Tryd.func28 rfl (by kernel_rfl) Tryd.ntmps28 rfl (Owns.nil w) ?_
  refine go (k := ?_)
  refine XL.q (.call rfl rfl fun _ w' hs => hdev w' hs.kept) rfl ?_
  refine go (k := ?_)
  refine XL.q (.call rfl rfl fun _ w' hs => hdev w' hs.kept) rfl ?_
  refine go (k := ?_)
  refine XL.q (.call rfl rfl fun _ w' hs => blocks_ok b lv x.ds w' hk ((hown w' hs.kept).grp (.tail _ (.tail _ (.head _))))) rfl ?_
  have hbad : ∀ h : a < 0 ∨ n < 2 ∨ 65536 < n ∨ (x.ds.length : Int) < n ∨ (x.ds.length : Int) - n < a, thr x.ds.length a n = 2 := fun h => by unfold thr; rw [if_pos h]
  by_cases c1 : a < 0
  · rw [hbad (.inl c1)]
    refine go (k := ?_)
    exact XE.ret1 () [] rfl rfl trivial rfl rfl rfl
  by_cases c2 : n < 2
  · rw [hbad (.inr (.inl c2))]
    refine go (k := ?_)
    exact XE.ret1 () [] rfl rfl trivial rfl rfl rfl
  by_cases c3 : 65536 < n
  · rw [hbad (.inr (.inr (.inl c3)))]
    refine go (k := ?_)
    exact XE.ret1 () [] rfl rfl trivial rfl rfl rfl
  by_cases c4 : (x.ds.length : Int) < n
  · rw [hbad (.inr (.inr (.inr (.inl c4))))]
    refine go (k := ?_)
    exact XE.ret1 () [] rfl rfl trivial rfl rfl rfl
  by_cases c5 : (x.ds.length : Int) - n < a
  · rw [hbad (.inr (.inr (.inr (.inr c5))))]
    refine go (k := ?_)
    exact XE.ret1 () [] rfl rfl trivial rfl rfl rfl
  · have e : thr x.ds.length a n = 0 := by unfold thr; rw [if_neg (by omega)]
    rw [e]
    refine go (k := ?_)
    exact XE.ret1 () [] rfl rfl trivial rfl rfl rfl
structure Rg where
  at_ : Nat
  n : Nat
  used : Nat
  broken : Bool
abbrev rgCs (bl : Nat) (g : Rg) : List Value := [ptr bl, iv g.at_, iv g.n, iv g.used, .bool g.broken, .bool true]
abbrev rgB (br bl : Nat) (g : Rg) : Ent := .blk br (rgCs bl g) 43
def mayc (b : Bool) : Int := if b = true then 17 else 0
theorem may_at (br bl : Nat) (g : Rg) (t : TypeId) (fz : Nat × Nat) (w : World) (hb : w.heap[br]? = some (.cells (rgCs bl g).toArray t fz)) : Fx Tryd.prog 36 [ptr br] w (Pure w (iv (mayc g.broken))) := by
  obtain ⟨a, n, used, broken⟩ := g
  have hB : br ∉ ids ([] : Heap) := by simp [X.ids]
  have h5 : (rgCs bl ⟨a, n, used, broken⟩)[0 + 5]? = some (.bool true) := rfl
  have h4 : (rgCs bl ⟨a, n, used, broken⟩)[0 + 4]? = some (.bool broken) := rfl
  refine Fx.of (L0 := []) Tryd.func36 rfl (by kernel_rfl) Tryd.ntmps36 rfl (Owns.nil w) ?_
  cases broken with
  | true =>
    refine go (k := ?_)
    exact XE.ret1 () [] rfl rfl trivial rfl rfl rfl
  | false =>
    refine go (k := ?_)
    exact XE.ret1 () [] rfl rfl trivial rfl rfl rfl
theorem left_at (br bl : Nat) (g : Rg) (t : TypeId) (fz : Nat × Nat) (w : World) (hg : g.n ≤ 1000000 ∧ g.used ≤ 1000000) (hb : w.heap[br]? = some (.cells (rgCs bl g).toArray t fz)) : Fx Tryd.prog 14 [ptr br] w (Pure w (iv ((g.n : Int) - 1 - g.used))) := by
  obtain ⟨a, n, used, broken⟩ := g
  simp only at hg
  have hB : br ∉ ids ([] : Heap) := by simp [X.ids]
  have h5 : (rgCs bl ⟨a, n, used, broken⟩)[0 + 5]? = some (.bool true) := rfl
  have h2 : (rgCs bl ⟨a, n, used, broken⟩)[0 + 2]? = some (iv n) := rfl
  have h3 : (rgCs bl ⟨a, n, used, broken⟩)[0 + 3]? = some (iv used) := rfl
  refine Fx.of (L0 := []) Tryd.func14 rfl (by kernel_rfl) Tryd.ntmps14 rfl (Owns.nil w) ?_
  refine go (k := ?_)
  exact XE.ret1 () [] rfl rfl trivial rfl rfl rfl
theorem did_ok (br bl : Nat) (g : Rg) (e : Int) (w : World) (ho : Owns w [rgB br bl g]) :
    Fx Tryd.prog 38 [ptr br, iv e] w (Ret w [rgB br bl g] (fun _ : Unit => iv e) (fun _ => [rgB br bl { g with broken := g.broken || decide (e ≠ 0) }]) (fun _ => True)) := by
  obtain ⟨a, n, used, broken⟩ := g
  refine Fx.of Tryd.func38 rfl (by kernel_rfl) Tryd.ntmps38 rfl ho ?_
  cases broken with
  | true =>
    refine go (k := ?_)
    exact XE.ret1 () [0] rfl rfl trivial rfl rfl rfl
  | false =>
    refine go (k := ?_)
    exact XE.ret1 () [0] rfl rfl trivial rfl rfl rfl
theorem may_nil (w : World) : Fx Tryd.prog 36 [.pointer none] w (Pure w (iv 1)) := by
  refine Fx.of (L0 := []) Tryd.func36 rfl (by kernel_rfl) Tryd.ntmps36 rfl (Owns.nil w) ?_
  refine go (k := ?_)
  exact XE.ret1 () [] rfl rfl trivial rfl rfl rfl
theorem left_nil (w : World) : Fx Tryd.prog 14 [.pointer none] w (Pure w (iv 0)) := by
  refine Fx.of (L0 := []) Tryd.func14 rfl (by kernel_rfl) Tryd.ntmps14 rfl (Owns.nil w) ?_
  refine go (k := ?_)
  exact XE.ret1 () [] rfl rfl trivial rfl rfl rfl
end Go.X
