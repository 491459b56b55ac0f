/- More ways to see what is owned. -/
import Derived.Test.YtifoppgacekknaaIter
namespace Go.X
open Go
section
variable {P : Program} {r : Option Nat} {w0 : World} {B : List Nat} {n : Nat} {Q : Post} {e : Env} {ds : List Deferred} {L : Heap}
theorem XC.drop1 {c : Code} {x : Ent} (h : XC P r w0 B n c Q e ds L) : XC P r w0 B n c Q e ds (x :: L) := ⟨fun a w hs => h.run a w (hs.subl (List.sublist_cons_self _ _))⟩
theorem XL.drop1 {ops : Array Oper} {l : List Oper} {x : Ent} (h : XL P r w0 B n ops l Q e ds L) : XL P r w0 B n ops l Q e ds (x :: L) := ⟨fun a w hs => h.run a w (hs.subl (List.sublist_cons_self _ _))⟩
theorem XE.drop1 {ex : Exit} {x : Ent} (h : XE w0 B n ex Q e ds L) : XE w0 B n ex Q e ds (x :: L) := ⟨fun a w hs => h.run a w (hs.subl (List.sublist_cons_self _ _))⟩
/-! ### One place of a list of entries, taken out and put back -/
theorem perm_out {α : Type} {f : α → Ent} : ∀ {ps : List α} {j : Nat} {p : α}, ps[j]? = some p → List.Perm (ps.map f) (f p :: (ps.eraseIdx j).map f)
  | [], j, p, h => by simp at h
  | x :: ps, 0, p, h => by simp at h; subst h; exact .refl _
  | x :: ps, j + 1, p, h => by
    have := perm_out (f := f) (ps := ps) (j := j) (p := p) (by simpa using h)
    exact (this.cons (f x)).trans (.swap _ _ _)
theorem perm_in {α : Type} {f : α → Ent} {q : α} : ∀ {ps : List α} {j : Nat}, j < ps.length → List.Perm (f q :: (ps.eraseIdx j).map f) ((ps.set j q).map f)
  | [], j, h => by simp at h
  | x :: ps, 0, h => .refl _
  | x :: ps, j + 1, h => by
    have := perm_in (f := f) (q := q) (ps := ps) (j := j) (by simpa using h)
    exact (List.Perm.swap _ _ _).trans (this.cons (f x))
theorem XL.outP {α : Type} {f : α → Ent} {ps : List α} {j : Nat} {p : α} {x : Ent} {ops : Array Oper} {l : List Oper} (hp : ps[j]? = some p) (h : XL P r w0 B n ops l Q e ds (f p :: x :: [grp ((ps.eraseIdx j).map f)])) :
    XL P r w0 B n ops l Q e ds (x :: ps.map f) :=
  ⟨fun a w hs => h.run a w (Sit.grpR (L := [f p, x]) (hs.perm (((perm_out hp).cons x).trans (.swap _ _ _))))⟩
theorem XL.inP {α : Type} {f : α → Ent} {ps : List α} {j : Nat} {q : α} {x : Ent} {ops : Array Oper} {l : List Oper} (hj : j < ps.length) (h : XL P r w0 B n ops l Q e ds (x :: (ps.set j q).map f)) :
    XL P r w0 B n ops l Q e ds (f q :: x :: [grp ((ps.eraseIdx j).map f)]) :=
  ⟨fun a w hs => h.run a w ((Sit.ungrpR (L := [f q, x]) hs).perm ((List.Perm.swap _ _ _).trans ((perm_in hj).cons x)))⟩
theorem XE.inP {α : Type} {f : α → Ent} {ps : List α} {j : Nat} {q : α} {x : Ent} {ex : Exit} (hj : j < ps.length) (h : XE w0 B n ex Q e ds (x :: (ps.set j q).map f)) :
    XE w0 B n ex Q e ds (f q :: x :: [grp ((ps.eraseIdx j).map f)]) :=
  ⟨fun a w hs => h.run a w ((Sit.ungrpR (L := [f q, x]) hs).perm ((List.Perm.swap _ _ _).trans ((perm_in hj).cons x)))⟩
/-- the last entries as one -/
theorem XC.allR {c : Code} {G : Heap} (h : XC P r w0 B n c Q e ds (L ++ [grp G])) : XC P r w0 B n c Q e ds (L ++ G) := ⟨fun a w hs => h.run a w hs.grpR⟩
theorem XL.allR {ops : Array Oper} {l : List Oper} {G : Heap} (h : XL P r w0 B n ops l Q e ds (L ++ [grp G])) : XL P r w0 B n ops l Q e ds (L ++ G) := ⟨fun a w hs => h.run a w hs.grpR⟩
theorem XE.allR {ex : Exit} {G : Heap} (h : XE w0 B n ex Q e ds (L ++ [grp G])) : XE w0 B n ex Q e ds (L ++ G) := ⟨fun a w hs => h.run a w hs.grpR⟩
theorem XC.openR {c : Code} {G : Heap} (h : XC P r w0 B n c Q e ds (L ++ G)) : XC P r w0 B n c Q e ds (L ++ [grp G]) := ⟨fun a w hs => h.run a w hs.ungrpR⟩
theorem XL.openR {ops : Array Oper} {l : List Oper} {G : Heap} (h : XL P r w0 B n ops l Q e ds (L ++ G)) : XL P r w0 B n ops l Q e ds (L ++ [grp G]) := ⟨fun a w hs => h.run a w hs.ungrpR⟩
theorem XE.openR {ex : Exit} {G : Heap} (h : XE w0 B n ex Q e ds (L ++ G)) : XE w0 B n ex Q e ds (L ++ [grp G]) := ⟨fun a w hs => h.run a w hs.ungrpR⟩
theorem Sit.inG {G : Heap} {a : Act} {w : World} (h : Sit w0 B n e ds L a w) (hm : grp G ∈ L) : Sit w0 B n e ds G a w :=
  ⟨h.sz, h.df, h.env, Owns.grp hm h.own, h.kept, fun b hb => h.wr b (mem_ids.2 ⟨_, hm, hb⟩)⟩
/-- what a group holds is read -/
theorem Quiet.inG {G : Heap} {op : Op} {ty : TypeId} {v : Value} (hm : grp G ∈ L) (h : Quiet P r w0 B n ds G op ty e v) : Quiet P r w0 B n ds L op ty e v :=
  ⟨fun d pos af g a w hs K Qx hK => h.at_ d pos af g a w (hs.inG hm) K Qx hK⟩
theorem XE.midI {α : Type} {E : α → Env} {H : α → Heap} {φ : α → Prop} (x : α) (hx : φ x) (he : SubE (E x) e) (hp : L = H x) : XE w0 B n .normal (Exit.then (Mid w0 B n ds E H φ) Q) e ds L := ⟨fun _ _ hs =>
  ⟨x, hx, hp ▸ hs.sub he.get⟩⟩
/-! ### Reading where nothing is opened -/
theorem Sit.rdv {a : Act} {w : World} {v : Value} {k m : Nat} {xs : List Value} (h : Sit w0 B n e ds L a w) (hr : Rd w0 B L v k m xs) : ∃ ao c, v = .slice ao m c ∧ m * k = xs.length ∧ m ≤ c ∧ (m = 0 ∨ ∃ b off, ao = some ⟨b, off, none⟩) := by
  obtain ⟨ao, c, rfl, h1, h2, h3⟩ := hr w h.own h.kept
  exact ⟨ao, c, rfl, h1, h2, h3.imp id fun ⟨b, off, _, _, _, h4, _⟩ => ⟨b, off, h4⟩⟩
theorem XC.rdv {c : Code} {v : Value} {k m : Nat} {xs : List Value} (hr : Rd w0 B L v k m xs) (h : ∀ ao q, v = .slice ao m q → m * k = xs.length → m ≤ q → (m = 0 ∨ ∃ b off, ao = some ⟨b, off, none⟩) → XC P r w0 B n c Q e ds L) : XC P r w0 B n c Q e ds L :=
  ⟨fun a w hs => by obtain ⟨ao, q, h1, h2, h3, h4⟩ := hs.rdv hr; exact (h ao q h1 h2 h3 h4).run a w hs⟩
theorem XL.rdv {ops : Array Oper} {l : List Oper} {v : Value} {k m : Nat} {xs : List Value} (hr : Rd w0 B L v k m xs) (h : ∀ ao q, v = .slice ao m q → m * k = xs.length → m ≤ q → (m = 0 ∨ ∃ b off, ao = some ⟨b, off, none⟩) → XL P r w0 B n ops l Q e ds L) : XL P r w0 B n ops l Q e ds L :=
  ⟨fun a w hs => by obtain ⟨ao, q, h1, h2, h3, h4⟩ := hs.rdv hr; exact (h ao q h1 h2 h3 h4).run a w hs⟩
theorem Quiet.ldRd [T : Tab P] {t ty : TypeId} {x : Operand} {d : TypeDesc} {b off j k m c : Nat} {xs : List Value} {v : Value} (hx : ev e x = some (.pointer (some ⟨b, off + j, none⟩))) (ht : T.und t = some d) (hs : scal d = true)
    (hr : Rd w0 B L (.slice (some ⟨b, off, none⟩) m c) k m xs) (hm : 0 < m) (hv : xs[j]? = some v) : Quiet P r w0 B n ds L (.load t x) ty e v :=
  .run (by simp) fun ρ d pos af g w hρ ho hk => by
    obtain ⟨ao, q, h0, h1, h2, h3⟩ := hr w ho hk
    cases h0
    rcases h3 with h3 | ⟨b', off', cs, tt, fz, h4, h5, h6⟩
    · omega
    · cases h4
      have hat := cut_all h6 j v hv
      simp only [execOp, hρ x (by simp [Op.operands]) _ hx, Instr.loadAt, Instr.sureAddr, Sem.run_bind, Sem.run_pure, Result.andThen, run_loadVar1 ht hs ((cell_of h5 (off + j)).trans hat)]
end
end Go.X
