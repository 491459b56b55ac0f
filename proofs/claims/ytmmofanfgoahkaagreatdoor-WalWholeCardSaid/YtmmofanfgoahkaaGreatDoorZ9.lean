/- More ways to see what is owned. -/
import Derived.Test.YtmmofanfgoahkaaGreatDoorIter
import Derived.ChangeKeysEq
namespace Go.X
open Go
section
variable {P : Program} {r : Option Nat} {w0 : World} {B : List Nat} {n : Nat} {Q : Post} {e : Env} {ds : List Deferred} {L : Heap}
theorem XC.drop1 {c : Code} {x : Ent} (h : XC P r w0 B n c Q e ds L) : XC P r w0 B n c Q e ds (x :: L) := ⟨fun a w hs => h.run a w (hs.subl (List.sublist_cons_self _ _))⟩
theorem XL.drop1 {ops : Array Oper} {l : List Oper} {x : Ent} (h : XL P r w0 B n ops l Q e ds L) : XL P r w0 B n ops l Q e ds (x :: L) := ⟨fun a w hs => h.run a w (hs.subl (List.sublist_cons_self _ _))⟩
theorem XE.drop1 {ex : Exit} {x : Ent} (h : XE w0 B n ex Q e ds L) : XE w0 B n ex Q e ds (x :: L) := ⟨fun a w hs => h.run a w (hs.subl (List.sublist_cons_self _ _))⟩
/-! ### One place of a list of entries, taken out and put back -/
theorem perm_out {α : Type} {f : α → Ent} : ∀ {ps : List α} {j : Nat} {p : α}, ps[j]? = some p → List.Perm (ps.map f) (f p :: (ps.eraseIdx j).map f)
  | [], j, p, h => by simp at h
  | x :: ps, 0, p, h => by simp at h; subst h; exact .refl _
  | x :: ps, j + 1, p, h => by
    have := perm_out (f := f) (ps := ps) (j := j) (p := p) (by simpa using h)
    exact (this.cons (f x)).trans (.swap _ _ _)
theorem perm_in {α : Type} {f : α → Ent} {q : α} : ∀ {ps : List α} {j : Nat}, j < ps.length → List.Perm (f q :: (ps.eraseIdx j).map f) ((ps.set j q).map f)
  | [], j, h => by simp at h
  | x :: ps, 0, h => .refl _
  | x :: ps, j + 1, h => by
    have := perm_in (f := f) (q := q) (ps := ps) (j := j) (by simpa using h)
    exact (List.Perm.swap _ _ _).trans (this.cons (f x))
theorem XL.outP {α : Type} {f : α → Ent} {ps : List α} {j : Nat} {p : α} {x : Ent} {ops : Array Oper} {l : List Oper} (hp : ps[j]? = some p) (h : XL P r w0 B n ops l Q e ds (f p :: x :: [grp ((ps.eraseIdx j).map f)])) :
    XL P r w0 B n ops l Q e ds (x :: ps.map f) :=
  ⟨fun a w hs => h.run a w (Sit.grpR (L := [f p, x]) (hs.perm (((perm_out hp).cons x).trans (.swap _ _ _))))⟩
theorem XL.inP {α : Type} {f : α → Ent} {ps : List α} {j : Nat} {q : α} {x : Ent} {ops : Array Oper} {l : List Oper} (hj : j < ps.length) (h : XL P r w0 B n ops l Q e ds (x :: (ps.set j q).map f)) :
    XL P r w0 B n ops l Q e ds (f q :: x :: [grp ((ps.eraseIdx j).map f)]) :=
  ⟨fun a w hs => h.run a w ((Sit.ungrpR (L := [f q, x]) hs).perm ((List.Perm.swap _ _ _).trans ((perm_in hj).cons x)))⟩
theorem XE.inP {α : Type} {f : α → Ent} {ps : List α} {j : Nat} {q : α} {x : Ent} {ex : Exit} (hj : j < ps.length) (h : XE w0 B n ex Q e ds (x :: (ps.set j q).map f)) :
    XE w0 B n ex Q e ds (f q :: x :: [grp ((ps.eraseIdx j).map f)]) :=
  ⟨fun a w hs => h.run a w ((Sit.ungrpR (L := [f q, x]) hs).perm ((List.Perm.swap _ _ _).trans ((perm_in hj).cons x)))⟩
/-- the last entries as one -/
theorem XC.allR {c : Code} {G : Heap} (h : XC P r w0 B n c Q e ds (L ++ [grp G])) : XC P r w0 B n c Q e ds (L ++ G) := ⟨fun a w hs => h.run a w hs.grpR⟩
theorem XL.allR {ops : Array Oper} {l : List Oper} {G : Heap} (h : XL P r w0 B n ops l Q e ds (L ++ [grp G])) : XL P r w0 B n ops l Q e ds (L ++ G) := ⟨fun a w hs => h.run a w hs.grpR⟩
theorem XE.allR {ex : Exit} {G : Heap} (h : XE w0 B n ex Q e ds (L ++ [grp G])) : XE w0 B n ex Q e ds (L ++ G) := ⟨fun a w hs => h.run a w hs.grpR⟩
theorem XC.openR {c : Code} {G : Heap} (h : XC P r w0 B n c Q e ds (L ++ G)) : XC P r w0 B n c Q e ds (L ++ [grp G]) := ⟨fun a w hs => h.run a w hs.ungrpR⟩
theorem XL.openR {ops : Array Oper} {l : List Oper} {G : Heap} (h : XL P r w0 B n ops l Q e ds (L ++ G)) : XL P r w0 B n ops l Q e ds (L ++ [grp G]) := ⟨fun a w hs => h.run a w hs.ungrpR⟩
theorem XE.openR {ex : Exit} {G : Heap} (h : XE w0 B n ex Q e ds (L ++ G)) : XE w0 B n ex Q e ds (L ++ [grp G]) := ⟨fun a w hs => h.run a w hs.ungrpR⟩
theorem Sit.inG {G : Heap} {a : Act} {w : World} (h : Sit w0 B n e ds L a w) (hm : grp G ∈ L) : Sit w0 B n e ds G a w :=
  ⟨h.sz, h.df, h.env, Owns.grp hm h.own, h.kept, fun b hb => h.wr b (mem_ids.2 ⟨_, hm, hb⟩)⟩
/-- what a group holds is read -/
theorem Quiet.inG {G : Heap} {op : Op} {ty : TypeId} {v : Value} (hm : grp G ∈ L) (h : Quiet P r w0 B n ds G op ty e v) : Quiet P r w0 B n ds L op ty e v :=
  ⟨fun d pos af g a w hs K Qx hK => h.at_ d pos af g a w (hs.inG hm) K Qx hK⟩
theorem Quiet.ldRdN [T : Tab P] {t ty : TypeId} {x : Operand} {d : TypeDesc} {b off j k m c s by' : Nat} {z : Value} {xs vs : List Value} (hx : ev e x = some (.pointer (some ⟨b, off + j, none⟩))) (ht : T.und t = some d) (hs : scal d = false)
    (hi : T.inf t = some (s, by', z)) (hr : Rd w0 B L (.slice (some ⟨b, off, none⟩) m c) k m xs) (hm : 0 < m) (hv : cut xs j s = some vs) : Quiet P r w0 B n ds L (.load t x) ty e (.agg vs.toArray) :=
  .run (by simp) fun ρ d' pos af g w hρ ho hk => by
    obtain ⟨ao, q, h0, h1, h2, h3⟩ := hr w ho hk
    cases h0
    rcases h3 with h3 | ⟨b', off', cs, tt, fz, h4, h5, h6⟩
    · omega
    · cases h4
      have hat : cut cs (off + j) s = some vs := by
        obtain ⟨g1, g2⟩ := cut_eq h6
        obtain ⟨g3, g4⟩ := cut_eq hv
        by_cases hs0 : s = 0
        · subst hs0
          have : vs = [] := by rw [g4]; simp
          subst this
          rfl
        · have hle : off + xs.length ≤ cs.length := by omega
          rw [cut_some (by omega), g4]
          congr 1
          have g2' : xs.drop j = ((cs.drop off).take xs.length).drop j := by rw [← g2]
          rw [g2', List.drop_take, List.take_take, List.drop_drop, Nat.min_eq_left (by omega)]
      simp only [execOp, hρ x (by simp [Op.operands]) _ hx, Instr.loadAt, Instr.sureAddr, Sem.run_bind, Sem.run_pure, Result.andThen, run_loadVarN ht hs hi h5 hat]
theorem XE.toRk {ops : Array Oper} {l : List Oper} (k : Nat) (hp : ops.toList.drop k = l) (he : edgesOk ops = true) (h : XR P r w0 B n ops l Q e ds L) :
    XE w0 B n .normal (Exit.then (fun a w => RS P r ops Q (ops.size - l.length) a w) Q) e ds L := .toR ⟨ops.toList.take k, by rw [← hp, List.take_append_drop]⟩ he h
/-- a call by contract, in whatever order -/
theorem Mut.call {α : Type} {C : Heap} {g : Operand} {args : Array Operand} {tys : Array TypeId} {ty : TypeId} {fid : FuncId} {first cap : Array Value} {vs : List Value} {ret : α → Value} {L1 : α → Heap} {φ : α → Prop}
    (hg : ev e g = some (.func (.func fid) first cap)) (ha : evs e args.toList = some vs)
    (hf : ∀ a w, Sit w0 B n [] ds (C ++ L) a w → Owns w C → Fx P fid (first.toList ++ vs ++ cap.toList) w (Ret w C ret L1 φ)) :
    Mut P r w0 B n ds L C (.call ⟨.value g, args, tys⟩) ty e (fun v H => ∃ x, φ x ∧ v = ret x ∧ H = L1 x) := by
  refine ⟨fun d pos af gd a w hs K Qx hK => ?_⟩
  have hfn := hf a w (hs.sub fun i v h => by simp [get] at h) hs.own.left
  have hmem : ∀ x ∈ args.toList, x ∈ (Op.call ⟨.value g, args, tys⟩).operands := fun x hx => by simp [Op.operands, Call.operands]; exact .inr (by simpa using hx)
  have hg' : a.eval g = .func (.func fid) first cap := hs.eval (by rw [ev_restr (by simp [Op.operands, Call.operands])]; exact hg)
  have ha' : args.map a.eval = vs.toArray := by
    rw [← Array.toList_inj]; simp only [Array.toList_map]
    exact map_evs ha (fun x hx u hu => hs.eval (by rw [ev_restr (hmem x hx)]; exact hu))
  refine ⟨fun _ _ => trivial, ?_⟩
  simp only [FW_round]
  rw [semAt_of r _ _ (by simp), run_call (P := P) rfl rfl hg' ha' hfn.enters]
  refine ⟨fun h => by simp at h, ?_⟩
  have e1 : first ++ vs.toArray ++ cap = (first.toList ++ vs ++ cap.toList).toArray := by apply Array.ext'; simp
  rw [e1]
  refine (calls_in hfn.calls).mono (fun en w' hr => ?_)
  cases en with
  | panicked _ => exact hr.elim
  | outgrown => exact hr.elim
  | returned u =>
    obtain ⟨x, hx, rfl, ho, hk, hnew⟩ := hr
    exact hK _ _ w' ⟨x, hx, rfl, rfl⟩ hk ho hnew
/-- the same under a guard that says yes -/
theorem XD.mutY {S : Soft} {ops : Array Oper} {rest : List Oper} {d : Nat} {op : Op} {ty : TypeId} {pos : String} {af : Array Edge} {Φ : Value → Heap → Prop} {C0 : Heap} {j s : Nat} {want b : Bool}
    (hj : (ops[j]?).bind (·.dst) = some s) (hb : get e s = some (.bool b)) (hw : b = want)
    (hq : Mut P r w0 B n ds L C0 op ty e Φ) (hd : Nat.blt d n = true) (hn : get e d = none)
    (h : XD P r w0 B n ops rest Q e ds L ((d, Φ) :: S) none) (hS : offS S d = true := by rfl) : XD P r w0 B n ops (⟨some d, op, ty, pos, af, some (j, want)⟩ :: rest) Q e ds L S (some C0) :=
  .step (.soft true Φ) rfl hd hS ⟨.inr ⟨j, want, s, rfl, hj, hw ▸ hb⟩, hn, C0, rfl, .inl hq⟩ h
theorem XD.makeY {S : Soft} {C : Option Heap} {ops : Array Oper} {rest : List Oper} {d : Nat} {op : Op} {ty : TypeId} {pos : String} {af : Array Edge} {Φ : Value → Heap → Prop} {j s : Nat} {want b : Bool}
    (hj : (ops[j]?).bind (·.dst) = some s) (hb : get e s = some (.bool b)) (hw : b = want)
    (hq : Makes P r w0 B n ds L op ty e Φ) (hd : Nat.blt d n = true) (hn : get e d = none)
    (h : XD P r w0 B n ops rest Q e ds L ((d, Φ) :: S) C) (hS : offS S d = true := by rfl) : XD P r w0 B n ops (⟨some d, op, ty, pos, af, some (j, want)⟩ :: rest) Q e ds L S C :=
  .step (.soft false Φ) rfl hd hS ⟨.inr ⟨j, want, s, rfl, hj, hw ▸ hb⟩, hn, hq⟩ h
theorem XD.lookY {S : Soft} {C : Option Heap} {ops : Array Oper} {rest : List Oper} {d s' : Nat} {op : Op} {ty : TypeId} {pos : String} {af : Array Edge} {v : Value} {Φ : Value → Heap → Prop} {j s : Nat} {want b : Bool}
    (hj : (ops[j]?).bind (·.dst) = some s) (hb : get e s = some (.bool b)) (hw : b = want)
    (hs : (s', Φ) ∈ S) (ht : (tmpsOf op).contains s' = true) (hq : ∀ u H, Φ u H → Quiet P r w0 B n ds (H ++ L) op ty ((s', u) :: e) v) (hd : Nat.blt d n = true)
    (h : XD P r w0 B n ops rest Q ((d, v) :: e) ds L S C) (hS : offS S d = true := by rfl) : XD P r w0 B n ops (⟨some d, op, ty, pos, af, some (j, want)⟩ :: rest) Q e ds L S C :=
  .step (.det v) rfl hd hS (.inr (.inr ⟨.inr ⟨j, want, s, rfl, hj, hw ▸ hb⟩, s', Φ, hs, by simpa using ht, hq⟩)) h
/-- A result that lies in one cell. -/
theorem XE.retC1 [T : Tab P] {α : Type} {fn : Func} {w : World} {L0 : Heap} {ret : α → Value} {L1 : α → Heap} {φ : α → Prop} {t ty : Nat} {d : TypeDesc} {b off : Nat} {tt : TypeId} {cs : List Value} {v : Value} (x : α) (is : List Nat) (hr : fn.results = #[.cell t ty]) (hv : get e t = some (.pointer (some ⟨b, off, none⟩)))
    (ht : T.und ty = some d) (hd : scal d = true) (hm : Ent.blk b cs tt ∈ L) (hc : cs[off]? = some v)
    (hx : φ x) (hret : v = ret x) (hn : decide is.Nodup = true) (hp : pick L is = L1 x) :
    XE w (ids L0) n .ret (bodyPostM (FW none) 0 P fn (Ret w L0 ret L1 φ)) e [] L := ⟨fun _ w' hs => by
  have hb : w'.heap[b]? = some (.cells cs.toArray tt (0, 0)) := hs.own.ok _ hm
  refine bodyEnd (v := v) hs.df ?_ (.of hs x hx hret hn hp)
  have h1 := hs.env t _ hv
  simp only [results, hr]
  simp [h1, asAddr, run_loadVar1 ht hd ((cell_of hb off).trans hc)]⟩
theorem XE.midI {α : Type} {E : α → Env} {H : α → Heap} {φ : α → Prop} (x : α) (hx : φ x) (he : SubE (E x) e) (hp : L = H x) : XE w0 B n .normal (Exit.then (Mid w0 B n ds E H φ) Q) e ds L := ⟨fun _ _ hs =>
  ⟨x, hx, hp ▸ hs.sub he.get⟩⟩
/-! ### Reading where nothing is opened -/
theorem Sit.rdv {a : Act} {w : World} {v : Value} {k m : Nat} {xs : List Value} (h : Sit w0 B n e ds L a w) (hr : Rd w0 B L v k m xs) : ∃ ao c, v = .slice ao m c ∧ m * k = xs.length ∧ m ≤ c ∧ (m = 0 ∨ ∃ b off, ao = some ⟨b, off, none⟩) := by
  obtain ⟨ao, c, rfl, h1, h2, h3⟩ := hr w h.own h.kept
  exact ⟨ao, c, rfl, h1, h2, h3.imp id fun ⟨b, off, _, _, _, h4, _⟩ => ⟨b, off, h4⟩⟩
theorem XC.rdv {c : Code} {v : Value} {k m : Nat} {xs : List Value} (hr : Rd w0 B L v k m xs) (h : ∀ ao q, v = .slice ao m q → m * k = xs.length → m ≤ q → (m = 0 ∨ ∃ b off, ao = some ⟨b, off, none⟩) → XC P r w0 B n c Q e ds L) : XC P r w0 B n c Q e ds L :=
  ⟨fun a w hs => by obtain ⟨ao, q, h1, h2, h3, h4⟩ := hs.rdv hr; exact (h ao q h1 h2 h3 h4).run a w hs⟩
theorem XL.rdv {ops : Array Oper} {l : List Oper} {v : Value} {k m : Nat} {xs : List Value} (hr : Rd w0 B L v k m xs) (h : ∀ ao q, v = .slice ao m q → m * k = xs.length → m ≤ q → (m = 0 ∨ ∃ b off, ao = some ⟨b, off, none⟩) → XL P r w0 B n ops l Q e ds L) : XL P r w0 B n ops l Q e ds L :=
  ⟨fun a w hs => by obtain ⟨ao, q, h1, h2, h3, h4⟩ := hs.rdv hr; exact (h ao q h1 h2 h3 h4).run a w hs⟩
theorem Quiet.ldRd [T : Tab P] {t ty : TypeId} {x : Operand} {d : TypeDesc} {b off j k m c : Nat} {xs : List Value} {v : Value} (hx : ev e x = some (.pointer (some ⟨b, off + j, none⟩))) (ht : T.und t = some d) (hs : scal d = true)
    (hr : Rd w0 B L (.slice (some ⟨b, off, none⟩) m c) k m xs) (hm : 0 < m) (hv : xs[j]? = some v) : Quiet P r w0 B n ds L (.load t x) ty e v :=
  .run (by simp) fun ρ d pos af g w hρ ho hk => by
    obtain ⟨ao, q, h0, h1, h2, h3⟩ := hr w ho hk
    cases h0
    rcases h3 with h3 | ⟨b', off', cs, tt, fz, h4, h5, h6⟩
    · omega
    · cases h4
      have hat := cut_all h6 j v hv
      simp only [execOp, hρ x (by simp [Op.operands]) _ hx, Instr.loadAt, Instr.sureAddr, Sem.run_bind, Sem.run_pure, Result.andThen, run_loadVar1 ht hs ((cell_of h5 (off + j)).trans hat)]
/-! ### append to an own slice, in whatever order -/
theorem Mut.run {C : Heap} {op : Op} {ty : TypeId} {Φ : Value → Heap → Prop} (hop : ∀ c, op ≠ .defer c)
    (h : ∀ (ρ : Operand → Value) (d : Option Nat) (pos : String) (af : Array Edge) (g : Option (Nat × Bool)) (w : World), (∀ x ∈ op.operands, ∀ u, ev e x = some u → ρ x = u) → Owns w C → Owns w L → Kept B w0 w →
      ∃ v H w', (execOp ρ ⟨d, op, ty, pos, af, g⟩).run P w = .ok (.value v) w' ∧ Φ v H ∧ Kept (ids C) w w' ∧ Owns w' H ∧ ∀ b ∈ ids H, b ∈ ids C ∨ w.heap.size ≤ b) : Mut P r w0 B n ds L C op ty e Φ := by
  refine ⟨fun d pos af g a w hs K Qx hK => ?_⟩
  obtain ⟨v, H, w', h1, h2, h3, h4, h5⟩ := h a.eval d pos af g w (fun x hx u hu => hs.eval (by rw [ev_restr hx]; exact hu)) hs.own.left hs.own.right hs.kept
  refine ⟨fun _ _ => trivial, ?_⟩
  simp only [FW_round]
  rw [semAt_of r _ _ hop, h1]
  exact hK v H w' h2 h3 h4 h5
theorem Mut.app [T : Tab P] {s x : Operand} {t tx ty el e' : TypeId} {k by' m : Nat} {z v u : Value} {xs news : List Value}
    (hs : ev e s = some v) (hx : ev e x = some u) (ht : T.und t = some (.slice el)) (htx : T.und tx = some (.slice e')) (hi : T.inf el = some (k, by', z)) (hz : z.cells.toList.length = k) (hk : 0 < k)
    (hr : Rd w0 B L u k m news) (h1 : news.all Value.oneCell' = true) (h63 : xs.length + news.length ≤ 4611686018427387904) (hby : (xs.length + news.length) * by' ≤ 140737488355328) :
    Mut P r w0 B n ds L [.sl v el k xs] (.call ⟨.builtin .append, #[s, x], #[t, tx]⟩) ty e (fun v' H => H = [.sl v' el k (xs ++ news)]) := by
  refine .run (by simp) fun ρ d pos af g w hρ hC ho hkp => ?_
  obtain ⟨v', w', hrun, hok, hk2, hnd, hids⟩ := run_append (ty := ty) ht hi hz hk (hC.ok _ (.head _)) ((hr w ho hkp).src (T.hund _ _ htx) h1) h63 hby
  refine ⟨v', _, w', run_builtin (vs := [v, u]) (by simp [hρ s (by simp [Op.operands, Call.operands]) _ hs, hρ x (by simp [Op.operands, Call.operands]) _ hx]) (fun consts => blt_run rfl hrun), rfl, hk2.mono (fun b hb => by simpa [X.ids, Ent.ids] using hb), ⟨fun y hy => ?_, ?_⟩, ?_⟩
  · obtain rfl := List.mem_singleton.1 hy
    exact hok
  · simpa [X.ids, Ent.ids] using hnd
  · simpa [X.ids, Ent.ids] using hids
end
end Go.X
/- Further entries. -/
namespace Go.X
open Go
section
variable {P : Program} {r : Option Nat} {w0 : World} {B : List Nat} {n : Nat} {Q : Post} {e : Env} {ds : List Deferred} {L : Heap}
/-- nothing, as an entry -/
theorem Sit.addG0 {a : Act} {w : World} (h : Sit w0 B n e ds L a w) : Sit w0 B n e ds (grp [] :: L) a w :=
  ⟨h.sz, h.df, h.env, ⟨fun x hx => by
    rcases List.mem_cons.1 hx with rfl | hx
    · exact ⟨fun _ _ => Owns.nil _, fun b hb => by cases hb⟩
    · exact h.own.ok x hx, h.own.nd⟩, h.kept, h.wr⟩
theorem XC.addG0 {c : Code} (h : XC P r w0 B n c Q e ds (grp [] :: L)) : XC P r w0 B n c Q e ds L := ⟨fun a w hs => h.run a w hs.addG0⟩
theorem XL.addG0 {ops : Array Oper} {l : List Oper} (h : XL P r w0 B n ops l Q e ds (grp [] :: L)) : XL P r w0 B n ops l Q e ds L := ⟨fun a w hs => h.run a w hs.addG0⟩
theorem XE.addG0 {ex : Exit} (h : XE w0 B n ex Q e ds (grp [] :: L)) : XE w0 B n ex Q e ds L := ⟨fun a w hs => h.run a w hs.addG0⟩
theorem take_snoc {α : Type} {l : List α} {k : Nat} {x : α} (h : l[k]? = some x) : l.take (k + 1) = l.take k ++ [x] := by
  rw [List.take_succ_eq_append_getElem (List.getElem?_eq_some_iff.1 h).1, (List.getElem?_eq_some_iff.1 h).2]
/-- what a further step keeps, seen from the start -/
theorem Sit.keptTo {a : Act} {w w' : World} (h : Sit w0 B n e ds L a w) {C : List Nat} (k : Kept C w w') (hC : ∀ b ∈ C, b ∈ X.ids L) : Kept B w0 w' := h.kept.trans k fun b hb => h.wr b (hC b hb)
theorem ids_of_mem {x : Ent} (h : x ∈ L) : ∀ b ∈ x.ids, b ∈ X.ids L := fun _ hb => mem_ids.2 ⟨x, h, hb⟩
/-! ### The heap written out anew -/
theorem XL.nm {M : Heap} {ops : Array Oper} {l : List Oper} (h : XL P r w0 B n ops l Q e ds M) (hp : L = M := by
    (try simp only [X.pick, List.cons_append, List.nil_append, List.append_nil, List.getElem?_cons_zero, List.getElem?_cons_succ]); rfl) : XL P r w0 B n ops l Q e ds L := hp ▸ h
theorem XC.nm {M : Heap} {c : Code} (h : XC P r w0 B n c Q e ds M) (hp : L = M := by
    (try simp only [X.pick, List.cons_append, List.nil_append, List.append_nil, List.getElem?_cons_zero, List.getElem?_cons_succ]); rfl) : XC P r w0 B n c Q e ds L := hp ▸ h
theorem XE.nm {M : Heap} {ex : Exit} (h : XE w0 B n ex Q e ds M) (hp : L = M := by
    (try simp only [X.pick, List.cons_append, List.nil_append, List.append_nil, List.getElem?_cons_zero, List.getElem?_cons_succ]); rfl) : XE w0 B n ex Q e ds L := hp ▸ h
/-! ### Contracts, otherwise told -/
theorem Fx.keep {α : Type} {f : FuncId} {args : List Value} {w : World} {L0 : Heap} {ret : α → Value} {φ : α → Prop} (ho : Owns w L0) (h : Fx P f args w (Ret w [] ret (fun _ => []) φ)) : Fx P f args w (Ret w L0 ret (fun _ => L0) φ) :=
  h.mono fun e w' hr => by
    cases e with
    | returned v =>
      obtain ⟨x, hx, hv, _, hk, _⟩ := hr
      exact ⟨x, hx, hv, ho.of_kept hk (fun _ _ h => by cases h), hk.mono (fun _ h => by cases h), fun b hb => .inl hb⟩
    | panicked _ => exact hr
    | outgrown => exact hr
theorem Owns.shut {w : World} {G : Heap} (h : Owns w G) : Owns w [X.grp G] :=
  ⟨fun x hx => by
    rw [List.mem_singleton.1 hx]
    exact ⟨fun w' hs => ⟨fun y hy => Ent.ok_of_same (h.ok y hy) (fun b hb => hs b (mem_ids.2 ⟨y, hy, hb⟩)), h.nd⟩, h.live⟩, by
    simp only [X.ids, grp_ids, List.append_nil]; exact h.nd⟩
theorem ids_grp1 (G : Heap) : X.ids [grp G] = X.ids G := by simp [X.ids, grp_ids]
theorem Fx.grp {α : Type} {f : FuncId} {args : List Value} {w : World} {G : Heap} {G1 : α → Heap} {ret : α → Value} {φ : α → Prop} (h : Owns w G → Fx P f args w (Ret w G ret G1 φ)) (ho : Owns w [X.grp G]) : Fx P f args w (Ret w [X.grp G] ret (fun x => [X.grp (G1 x)]) φ) :=
  (h (ho.grp (.head _))).mono fun e w' hr => by
    cases e with
    | returned v =>
      obtain ⟨x, hx, hv, ho', hk, hn⟩ := hr
      refine ⟨x, hx, hv, ho'.shut, ?_, ?_⟩
      · rw [ids_grp1]; exact hk
      · rw [ids_grp1, ids_grp1]; exact hn
    | panicked _ => exact hr
    | outgrown => exact hr
/-- Two results, each in one cell. -/
theorem XE.retC2 [T : Tab P] {α : Type} {fn : Func} {w : World} {L0 : Heap} {ret : α → Value} {L1 : α → Heap} {φ : α → Prop} {t ty t' ty' : Nat} {d d' : TypeDesc} {b off b' off' : Nat} {tt tt' : TypeId} {cs cs' : List Value} {v v' : Value} (x : α) (is : List Nat) (hr : fn.results = #[.cell t ty, .cell t' ty'])
    (hv : get e t = some (.pointer (some ⟨b, off, none⟩))) (hv' : get e t' = some (.pointer (some ⟨b', off', none⟩)))
    (ht : T.und ty = some d) (hd : scal d = true) (ht' : T.und ty' = some d') (hd' : scal d' = true) (hm : Ent.blk b cs tt ∈ L) (hc : cs[off]? = some v) (hm' : Ent.blk b' cs' tt' ∈ L) (hc' : cs'[off']? = some v')
    (hx : φ x) (hret : Value.tuple #[v, v'] = ret x) (hn : decide is.Nodup = true) (hp : pick L is = L1 x) :
    XE w (ids L0) n .ret (bodyPostM (FW none) 0 P fn (Ret w L0 ret L1 φ)) e [] L := ⟨fun _ w' hs => by
  have hb : w'.heap[b]? = some (.cells cs.toArray tt (0, 0)) := hs.own.ok _ hm
  have hb' : w'.heap[b']? = some (.cells cs'.toArray tt' (0, 0)) := hs.own.ok _ hm'
  refine bodyEnd (v := .tuple #[v, v']) hs.df ?_ (.of hs x hx hret hn hp)
  have h1 := hs.env t _ hv
  have h2 := hs.env t' _ hv'
  simp only [results, hr]
  simp [h1, h2, asAddr, run_loadVar1 ht hd ((cell_of hb off).trans hc), run_loadVar1 ht' hd' ((cell_of hb' off').trans hc')]⟩
end
end Go.X
/- copy; arrays that are compared; cuts of arrays. -/
namespace Go.X
open Go
section
variable {P : Program} {r : Option Nat} {w0 : World} {B : List Nat} {n : Nat} {Q : Post} {e : Env} {ds : List Deferred} {L : Heap} [T : Tab P]
theorem run_copy {t tx ty el : TypeId} {k by' b off l c m : Nat} {z x : Value} {cs cs' news : List Value} {tt : TypeId} {w : World} (ht : T.und t = some (.slice el)) (hi : T.inf el = some (k, by', z))
    (hs : Src P k tx x m news w) (hle : m ≤ l) (hb : w.heap[b]? = some (.cells cs.toArray tt (0, 0))) (hp : SplL cs off news cs') :
    ∃ w', (Builtin.copy_ #[t, tx] ty #[.slice (some ⟨b, off, none⟩) l c, x]).run P w = .ok (.int .i64 (m : Int)) w' ∧ w'.heap[b]? = some (.cells cs'.toArray tt (0, 0)) ∧ Kept [b] w w' := by
  have hu := T.hund _ _ ht
  obtain ⟨i, hi1, hi2, hi3, hi4⟩ := T.hinf el k by' z hi
  obtain ⟨w', hr, hh, hkp⟩ := run_storeCells (P := P) hb hp (by simpa using hs.one)
  refine ⟨w', ?_, hh, hkp⟩
  have hm : Nat.min m l = m := Nat.min_eq_left hle
  have hc : (Builtin.firstCells i.size m x).run P w = .ok news.toArray w := by rw [hi2]; exact hs.cells
  simp [Builtin.copy_, run_underlying hu, sizeOf, typeInfo, hi1, hs.len, hm, hc, hr, goInt]
theorem XL.copy {ops : Array Oper} {rest : List Oper} {d : Nat} {s x : Operand} {t tx ty el : TypeId} {pos : String} {af : Array Edge} {k by' m b off l c : Nat} {z u : Value} {tt : TypeId} {cs cs' news : List Value} {L' : Heap}
    (hs : ev e s = some (.slice (some ⟨b, off, none⟩) l c)) (hx : ev e x = some u) (ht : T.und t = some (.slice el)) (hi : T.inf el = some (k, by', z))
    (hm : Ent.blk b cs tt ∈ L) (hsrc : ∀ w, Owns w L → Kept B w0 w → Src P k tx u m news w) (hle : m ≤ l) (hp : SplL cs off news cs')
    (hu : Upd L (.blk b cs tt) (.blk b cs' tt) L') (hd : Nat.blt d n = true)
    (h : XL P r w0 B n ops rest Q ((d, .int .i64 (m : Int)) :: e) ds L') : XL P r w0 B n ops (⟨some d, .call ⟨.builtin .copy, #[s, x], #[t, tx]⟩, ty, pos, af, none⟩ :: rest) Q e ds L := by
  refine XL.valX (φ := fun _ : Unit => True) (v := fun _ => .int .i64 (m : Int)) (L' := fun _ => L') hd (by simp) (fun a w hs' => ?_) (fun _ _ => h)
  obtain ⟨w', hrun, hh, hkp⟩ := run_copy (ty := ty) (c := c) ht hi (hsrc w hs'.own hs'.kept) hle (hs'.own.ok _ hm) hp
  refine ⟨(), w', trivial, ?_, hs'.step hkp (fun b' hb' => mem_ids.2 ⟨_, hm, by simpa [Ent.ids] using hb'⟩) (hu.owns hs'.own rfl hh hkp) (fun b' hb' => .inl (by rw [hu.ids rfl] at hb'; exact hb'))⟩
  exact run_builtin (vs := [.slice (some ⟨b, off, none⟩) l c, u]) (by simp [hs'.eval hs, hs'.eval hx]) (fun consts => blt_run rfl hrun)
theorem src_str {tx : TypeId} {l : List UInt8} {w : World} (ht : T.und tx = some .string) : Src P 1 tx (str l) l.length (bcells l) w := by
  have h := Src.ofString w (T.hund _ _ ht) ⟨l.toArray⟩
  have e1 : (ByteArray.mk l.toArray).size = l.length := by show l.toArray.size = _; simp
  have e2 : byteCells ⟨l.toArray⟩ = bcells l := rfl
  rw [e1, e2] at h
  exact h
theorem Quiet.cutAh {t ty el : TypeId} {x hi : Operand} {kk : IntKind} {b off len h s by' : Nat} {z : Value} (hx : ev e x = some (.pointer (some ⟨b, off, none⟩))) (hh : ev e hi = some (.int kk (h : Int))) (ht : T.und t = some (.array len el)) (hi' : T.inf el = some (s, by', z)) (hle : h ≤ len) :
    Quiet P r w0 B n ds L (.slice t x none (some hi) none) ty e (.slice (some ⟨b, off, none⟩) h len) :=
  .run (by simp) fun ρ d pos af g w hρ _ _ => by
    simp only [execOp, hρ x (by simp [Op.operands]) _ hx, hρ hi (by simp [Op.operands]) _ hh, Option.map, Instr.sliceAt, Sem.run_bind, run_und ht, Result.andThen, Instr.sureAddr,
      Instr.sliceBounds, Sem.run_pure, run_bound hle]
    simp only [run_size hi', Nat.sub_zero, Nat.zero_mul, add_none, Nat.add_zero]
    simp
/-! ### Arrays of integers, compared -/
theorem run_part1 {el : TypeId} {d : TypeDesc} {cs : List Value} {i : Nat} {v : Value} (hd : T.und el = some d) (hs : scal d = true) (hv : cs[i]? = some v) (w : World) : (part el cs.toArray i).run P w = .ok v w := by
  have : cs.toArray[i]? = some v := by simpa using hv
  simp only [part, Sem.run_bind, run_isAgg hd, Result.andThen, hs, Bool.not_true, Bool.false_eq_true, if_false, this, Sem.run_pure]
theorem run_eqItems {el : TypeId} {k : IntKind} (hd : T.und el = some (.int k)) (q : Nat) (xs ys : List Int) (w : World) : ∀ m i, i + m = xs.length → i + m = ys.length →
    (Op.eqItems (q + 1) el 1 (xs.map (Value.int k)).toArray (ys.map (Value.int k)).toArray (List.range' i m)).run P w = .ok (decide (xs.drop i = ys.drop i)) w
  | 0, i, hx, hy => by
    rw [List.drop_of_length_le (by omega), List.drop_of_length_le (by omega)]
    simp [Op.eqItems]
  | m + 1, i, hx, hy => by
    obtain ⟨a, ha⟩ : ∃ a, xs[i]? = some a := ⟨_, List.getElem?_eq_getElem (by omega)⟩
    obtain ⟨b, hb⟩ : ∃ b, ys[i]? = some b := ⟨_, List.getElem?_eq_getElem (by omega)⟩
    have ih := run_eqItems hd q xs ys w m (i + 1) (by omega) (by omega)
    have e1 : xs.drop i = a :: xs.drop (i + 1) := by rw [List.drop_eq_getElem_cons (by omega)]; rw [(List.getElem?_eq_some_iff.1 ha).2]
    have e2 : ys.drop i = b :: ys.drop (i + 1) := by rw [List.drop_eq_getElem_cons (by omega)]; rw [(List.getElem?_eq_some_iff.1 hb).2]
    have p1 := run_part1 (P := P) (cs := xs.map (Value.int k)) (i := i * 1) (v := .int k a) hd rfl (by simp [ha]) w
    have p2 := run_part1 (P := P) (cs := ys.map (Value.int k)) (i := i * 1) (v := .int k b) hd rfl (by simp [hb]) w
    have p3 : (Op.equalIn (q + 1) el (.int k a) (.int k b)).run P w = .ok (a == b) w := by
      simp [Op.equalIn, run_underlying (T.hund _ _ hd)]
    rw [List.range'_succ, e1, e2]
    simp only [Op.eqItems, Sem.run_bind, p1, p2, p3, Result.andThen]
    by_cases hab : a = b
    · subst hab
      simp only [beq_self_eq_true, Bool.not_true, Bool.false_eq_true, if_false, ih]
      simp
    · have : (a == b) = false := by simpa using hab
      simp [this, hab]
theorem eqAgg_run {t el : TypeId} {len by' : Nat} {k : IntKind} {z : Value} (ht : T.und t = some (.array len el)) (hd : T.und el = some (.int k)) (hi : T.inf el = some (1, by', z)) {xs ys : List Int} (hx : xs.length = len) (hy : ys.length = len) (w : World) :
    (Op.equal t (.agg (xs.map (Value.int k)).toArray) (.agg (ys.map (Value.int k)).toArray)).run P w = .ok (decide (xs = ys)) w := by
  obtain ⟨i, hi1, hi2, hi3, hi4⟩ := T.hinf el 1 by' z hi
  have hc : P.cellsOf el = 1 := by simp [Program.cellsOf, hi1, hi2]
  show (Op.equalIn (9998 + 1 + 1) t _ _).run P w = _
  rw [run_equalIn_array w 9999 _ _ (T.hund _ _ ht) hi1, hc, List.range_eq_range']
  have := run_eqItems (P := P) hd 9998 xs ys w len 0 (by omega) (by omega)
  simpa using this
theorem Quiet.neA {x y : Operand} {ty t t' el : TypeId} {len by' : Nat} {k : IntKind} {z : Value} {xs ys : List Int} (hx : ev e x = some (.agg (xs.map (Value.int k)).toArray)) (hy : ev e y = some (.agg (ys.map (Value.int k)).toArray))
    (ht : T.und t = some (.array len el)) (hd : T.und el = some (.int k)) (hi : T.inf el = some (1, by', z)) (hlx : xs.length = len) (hly : ys.length = len) (hg : P.eqGuardType P.depth t = false) :
    Quiet P r w0 B n ds L (.binOp .neq t x y t') ty e (.bool (!decide (xs = ys))) :=
  .neV hx hy (fun w => by simp [eqGuard, program, Sem.run, hg, Result.andThen]) fun w => by
    show ((Op.equal t (.agg (xs.map (Value.int k)).toArray) (.agg (ys.map (Value.int k)).toArray) >>= fun b => pure (.bool !b) : Sem Value)).run P w = _
    rw [Sem.run_bind, eqAgg_run ht hd hi hlx hly]; rfl
end
end Go.X
