/- Calls by contract, a function's contract out of its body, loops, cuts. -/
import Derived.Test.YtmmofanfgoahkaaGreatDoorMem
namespace Go.X
open Go

/-- What a call leaves: it returns; what is owned behind it; all else as it was. x: what is not known ahead. -/
def Ret {α : Type} (w : World) (L0 : Heap) (ret : α → Value) (L1 : α → Heap) (φ : α → Prop) : Ending → World → Prop
  | .returned v, w' => ∃ x, φ x ∧ v = ret x ∧ Owns w' (L1 x) ∧ Kept (ids L0) w w' ∧ ∀ b ∈ ids (L1 x), b ∈ ids L0 ∨ w.heap.size ≤ b
  | _, _ => False

/-- A call of function f, at a world. -/
structure Fx (P : Program) (f : FuncId) (args : List Value) (w : World) (R : Ending → World → Prop) : Prop where
  enters : ∀ args w, (callFunc f args).run P w = .ok (.enter f args) w
  calls : Calls P f args.toArray w R

theorem Fx.mono {P : Program} {f : FuncId} {args : List Value} {w : World} {R R' : Ending → World → Prop} (h : Fx P f args w R) (hr : ∀ e w', R e w' → R' e w') : Fx P f args w R' :=
  ⟨h.enters, h.calls.mono hr⟩
/-- The values that are not known ahead, otherwise told. -/
theorem Ret.map {α β : Type} {w : World} {L0 : Heap} {ret : α → Value} {L1 : α → Heap} {φ : α → Prop} {ret' : β → Value} {L1' : β → Heap} {φ' : β → Prop} (g : α → β)
    (h : ∀ x, φ x → φ' (g x) ∧ ret x = ret' (g x) ∧ L1 x = L1' (g x)) : ∀ e w', Ret w L0 ret L1 φ e w' → Ret w L0 ret' L1' φ' e w' := by
  intro e w' hr
  cases e with
  | returned v =>
    obtain ⟨x, hx, hv, ho, hk, hn⟩ := hr
    obtain ⟨h1, h2, h3⟩ := h x hx
    exact ⟨g x, h1, hv.trans h2, h3 ▸ ho, hk, h3 ▸ hn⟩
  | panicked _ => exact hr
  | outgrown => exact hr

theorem calls_in {r : Option Nat} {P : Program} {f : FuncId} {args : Array Value} {w : World} {R : Ending → World → Prop} (h : Calls P f args w R) : CallsIn (FW r) 0 P f args w R :=
  (callsIn_wide (n := 0)).2 h

section
variable {P : Program} {r : Option Nat} {w0 : World} {B : List Nat} {n : Nat} {Q : Post} {e : Env} {ds : List Deferred} {L : Heap}

/-- An operation that calls a Go function: what it runs to. -/
theorem run_call {ρ : Operand → Value} {c : Call} {o : Oper} {fid : FuncId} {first cap : Array Value} {vs : List Value} {w : World} {g : Operand} (ho : o.op = .call c) (hc : c.callee = .value g)
    (hg : ρ g = .func (.func fid) first cap) (ha : c.args.map ρ = vs.toArray) (he : ∀ args w, (callFunc fid args).run P w = .ok (.enter fid args) w) :
    (execOp ρ o).run P w = .ok (.enter fid (first ++ vs.toArray ++ cap)) w := by
  simp only [execOp, ho, resolve, hc, ha, hg, Deferred.ofValue, Sem.run_bind, Sem.run_pure, Result.andThen, invoke, he]

/-- A call by contract. is: the places of the entries that the contract takes; js: of those that stay aside. -/
theorem XL.call {α : Type} {ops : Array Oper} {rest : List Oper} {d : Nat} {g : Operand} {args : Array Operand} {tys : Array TypeId} {ty : TypeId} {pos : String} {af : Array Edge}
    {fid : FuncId} {first cap : Array Value} {vs : List Value} {ret : α → Value} {L0 : Heap} {L1 : α → Heap} {φ : α → Prop} (is js : List Nat)
    (hg : ev e g = some (.func (.func fid) first cap)) (ha : evs e args.toList = some vs) (hd : Nat.blt d n = true) (hn : decide (is ++ js).Nodup = true) (h0 : pick L is = L0)
    (hf : ∀ a w, Sit w0 B n e ds L a w → Owns w L0 → Fx P fid (first.toList ++ vs ++ cap.toList) w (Ret w L0 ret L1 φ))
    (h : ∀ x, φ x → XL P r w0 B n ops rest Q ((d, ret x) :: e) ds (L1 x ++ pick L js)) :
    XL P r w0 B n ops (⟨some d, .call ⟨.value g, args, tys⟩, ty, pos, af, none⟩ :: rest) Q e ds L := by
  refine ⟨fun a w hs => ?_⟩
  have hnd : (is ++ js).Nodup := of_decide_eq_true hn
  have hp : Owns w (pick L is ++ pick L js) := by rw [← pick_append]; exact hs.own.pick hnd
  subst h0
  have hfn := hf a w hs hp.left
  refine wpListIn_plain rfl (fun K hK => ⟨fun _ _ => trivial, ?_⟩)
  simp only [FW_round]
  rw [semAt_of r _ _ (by simp), run_call (P := P) rfl rfl (hs.eval hg) (vs := vs) (by rw [← Array.toList_inj]; simp only [Array.toList_map]; exact hs.evals ha) hfn.enters]
  refine ⟨fun h => by simp at h, ?_⟩
  have e1 : first ++ vs.toArray ++ cap = (first.toList ++ vs ++ cap.toList).toArray := by apply Array.ext'; simp
  rw [e1]
  refine (calls_in hfn.calls).mono (fun en w' hr => ?_)
  cases en with
  | panicked _ => exact hr.elim
  | outgrown => exact hr.elim
  | returned v =>
    obtain ⟨x, hx, rfl, ho, hk, hnew⟩ := hr
    refine hK _ _ ((h x hx).run _ _ (Sit.put ?_ hd))
    refine hs.step hk (fun b hb => ids_pick_sub hb) (ho.append (hp.right.of_kept hk (fun b hb hb' => hp.apart b hb' hb)) (fun b hb hb' => ?_)) (fun b hb => ?_)
    · rcases hnew b hb with h1 | h1
      · exact hp.apart b h1 hb'
      · exact absurd (hp.right.live b hb') (Nat.not_lt.2 h1)
    · rw [ids_append] at hb
      rcases List.mem_append.1 hb with hb | hb
      · exact (hnew b hb).imp ids_pick_sub id
      · exact .inl (ids_pick_sub hb)
/-- A call that only computes (it may make memory, which nobody holds behind it). -/
theorem Quiet.call {α : Type} {g : Operand} {args : Array Operand} {tys : Array TypeId} {ty : TypeId} {fid : FuncId} {first cap : Array Value} {vs : List Value} {v : Value} {φ : α → Prop}
    (hg : ev e g = some (.func (.func fid) first cap)) (ha : evs e args.toList = some vs)
    (hf : ∀ a w, Sit w0 B n [] ds L a w → Fx P fid (first.toList ++ vs ++ cap.toList) w (Ret w [] (fun _ : α => v) (fun _ => []) φ)) :
    Quiet P r w0 B n ds L (.call ⟨.value g, args, tys⟩) ty e v := by
  refine ⟨fun d pos af gd a w hs K Qx hK => ?_⟩
  have hfn := hf a w (hs.sub fun i v h => by simp [get] at h)
  have hmem : ∀ x ∈ args.toList, x ∈ (Op.call ⟨.value g, args, tys⟩).operands := fun x hx => by simp [Op.operands, Call.operands]; exact .inr (by simpa using hx)
  have hg' : a.eval g = .func (.func fid) first cap := hs.eval (by rw [ev_restr (by simp [Op.operands, Call.operands])]; exact hg)
  have ha' : args.map a.eval = vs.toArray := by
    rw [← Array.toList_inj]; simp only [Array.toList_map]
    exact map_evs ha (fun x hx u hu => hs.eval (by rw [ev_restr (hmem x hx)]; exact hu))
  refine ⟨fun _ _ => trivial, ?_⟩
  simp only [FW_round]
  rw [semAt_of r _ _ (by simp), run_call (P := P) rfl rfl hg' ha' hfn.enters]
  refine ⟨fun h => by simp at h, ?_⟩
  have e1 : first ++ vs.toArray ++ cap = (first.toList ++ vs ++ cap.toList).toArray := by apply Array.ext'; simp
  rw [e1]
  refine (calls_in hfn.calls).mono (fun en w' hr => ?_)
  cases en with
  | panicked _ => exact hr.elim
  | outgrown => exact hr.elim
  | returned u =>
    obtain ⟨x, hx, rfl, ho, hk, hnew⟩ := hr
    exact hK w' hk

/-! ### A function's contract out of its body -/
def argEnv : Nat → List Value → Env
  | _, [] => []
  | i, v :: vs => (i, v) :: argEnv (i + 1) vs
theorem get_argEnv : ∀ {vs : List Value} {i j : Nat} {v : Value}, get (argEnv i vs) j = some v → i ≤ j ∧ vs[j - i]? = some v
  | [], i, j, v, h => by simp [argEnv, get] at h
  | u :: vs, i, j, v, h => by
    simp only [argEnv] at h
    rcases get_cons.1 h with ⟨rfl, rfl⟩ | ⟨hne, h⟩
    · simp
    · obtain ⟨h1, h2⟩ := get_argEnv h
      refine ⟨by omega, ?_⟩
      obtain ⟨k, hk⟩ : ∃ k, j - i = k + 1 := ⟨j - i - 1, by omega⟩
      rw [hk, List.getElem?_cons_succ, ← h2]
      congr 1; omega

theorem Fx.of {f : FuncId} {fn : Func} {c : Code} {args : List Value} {w : World} {R : Ending → World → Prop} {L0 : Heap} (hf : P.funcs[f]? = some fn) (hb : fn.body = some c) (hname : (fn.name == "runtime.NumGoroutine") = false)
    (hn : fn.ntmps = n) (hl : Nat.ble args.length n = true) (ho : Owns w L0)
    (h : XC P none w (ids L0) n c (bodyPostM (FW none) 0 P fn R) (argEnv 0 args) [] L0) : Fx P f args w R := by
  constructor
  · intro as w
    have hbn : fn.body.isNone = false := by rw [hb]; rfl
    have : (callFunc f as).run P w = .ok (.enter f as) w := by
      simp only [callFunc, program, Sem.run_bind, Sem.run, Result.andThen, hf, hname, hbn, Bool.false_eq_true, if_false]
      rfl
    exact this
  · have hlt : args.length ≤ n := Nat.le_of_ble_eq_true hl
    refine (callsIn_wide (n := 0)).1 (callsIn_of_wp_marks hf hb trivial ?_ rfl)
    refine h.run _ w ⟨?_, rfl, ?_, ho, .refl _ _, fun b hb => .inl hb⟩
    · simp [hn]; omega
    · intro i v hv
      obtain ⟨_, h2⟩ := get_argEnv hv
      have hlen : i - 0 < args.length := (List.getElem?_eq_some_iff.1 h2).1
      rw [Array.getElem?_append_left (by simpa using hlen)]
      simpa using h2

/-! ### The end of a body -/
theorem bodyEnd {fn : Func} {w' : World} {a : Act} {v : Value} {R : Ending → World → Prop} (hd : a.defers = []) (hr : (results fn a.tmps).run P w' = .ok v w') (hR : R (.returned v) w') :
    bodyPostM (FW none) 0 P fn R .ret a w' := by
  show LeavesInM (FW none) 0 P fn a.tmps _ a.defers .returning w'
  rw [hd]
  exact ⟨v, hr, hR⟩
theorem bodyEndN {fn : Func} {w' : World} {a : Act} {v : Value} {R : Ending → World → Prop} (hd : a.defers = []) (hr : (results fn a.tmps).run P w' = .ok v w') (hR : R (.returned v) w') :
    bodyPostM (FW none) 0 P fn R .normal a w' := by
  show LeavesInM (FW none) 0 P fn a.tmps _ a.defers .returning w'
  rw [hd]
  exact ⟨v, hr, hR⟩
theorem Ret.of {α : Type} {w w' : World} {L0 : Heap} {ret : α → Value} {L1 : α → Heap} {φ : α → Prop} {a : Act} {e : Env} {ds : List Deferred} (hs : Sit w (ids L0) n e ds L a w') (x : α) {is : List Nat} {v : Value} (hx : φ x) (hv : v = ret x)
    (hn : decide is.Nodup = true) (hp : pick L is = L1 x) : Ret w L0 ret L1 φ (.returned v) w' :=
  ⟨x, hx, hv, hp ▸ hs.own.pick (of_decide_eq_true hn), hs.kept, fun b hb => hs.wr b (ids_pick_sub (hp ▸ hb))⟩
theorem getD_of {a : Act} {w' : World} {e : Env} {ds : List Deferred} (hs : Sit w0 B n e ds L a w') {t : Nat} {v : Value} (h : get e t = some v) : a.tmps.getD t undef = v := by
  have := hs.env t v h
  simp only [Array.getD_eq_getD_getElem?, this, Option.getD_some]

section
variable {α : Type} {fn : Func} {w : World} {L0 : Heap} {ret : α → Value} {L1 : α → Heap} {φ : α → Prop}
theorem XE.ret0 (x : α) (is : List Nat) (hr : fn.results = #[]) (hx : φ x) (hret : Value.tuple #[] = ret x) (hn : decide is.Nodup = true) (hp : pick L is = L1 x) :
    XE w (ids L0) n .ret (bodyPostM (FW none) 0 P fn (Ret w L0 ret L1 φ)) e [] L := ⟨fun _ _ hs =>
  bodyEnd hs.df (results_none hr _ _ _) (.of hs x hx hret hn hp)⟩
theorem XE.end0 (x : α) (is : List Nat) (hr : fn.results = #[]) (hx : φ x) (hret : Value.tuple #[] = ret x) (hn : decide is.Nodup = true) (hp : pick L is = L1 x) :
    XE w (ids L0) n .normal (bodyPostM (FW none) 0 P fn (Ret w L0 ret L1 φ)) e [] L := ⟨fun _ _ hs =>
  bodyEndN hs.df (results_none hr _ _ _) (.of hs x hx hret hn hp)⟩
theorem XE.ret1 {t : Nat} {v : Value} (x : α) (is : List Nat) (hr : fn.results = #[.tmp t]) (hv : get e t = some v) (hx : φ x) (hret : v = ret x) (hn : decide is.Nodup = true) (hp : pick L is = L1 x) :
    XE w (ids L0) n .ret (bodyPostM (FW none) 0 P fn (Ret w L0 ret L1 φ)) e [] L := ⟨fun _ _ hs =>
  bodyEnd hs.df (results_tmp hr _ _ _) (.of hs x hx ((getD_of hs hv).trans hret) hn hp)⟩
theorem XE.ret2 {t u : Nat} {v v' : Value} (x : α) (is : List Nat) (hr : fn.results = #[.tmp t, .tmp u]) (hv : get e t = some v) (hv' : get e u = some v') (hx : φ x) (hret : Value.tuple #[v, v'] = ret x) (hn : decide is.Nodup = true) (hp : pick L is = L1 x) :
    XE w (ids L0) n .ret (bodyPostM (FW none) 0 P fn (Ret w L0 ret L1 φ)) e [] L := ⟨fun _ _ hs =>
  bodyEnd hs.df (results_tmp2 hr _ _ _) (.of hs x hx (by rw [getD_of hs hv, getD_of hs hv']; exact hret) hn hp)⟩
theorem results_tmp3 {fn : Func} {t u s : Tmp} (h : fn.results = #[.tmp t, .tmp u, .tmp s]) (tmps : Array Value) (P : Program) (w : World) :
    (results fn tmps).run P w = .ok (.tuple #[tmps.getD t undef, tmps.getD u undef, tmps.getD s undef]) w := by
  simp [results, h]
theorem XE.ret3 {t u s : Nat} {v v' v'' : Value} (x : α) (is : List Nat) (hr : fn.results = #[.tmp t, .tmp u, .tmp s]) (hv : get e t = some v) (hv' : get e u = some v') (hv'' : get e s = some v'') (hx : φ x) (hret : Value.tuple #[v, v', v''] = ret x) (hn : decide is.Nodup = true) (hp : pick L is = L1 x) :
    XE w (ids L0) n .ret (bodyPostM (FW none) 0 P fn (Ret w L0 ret L1 φ)) e [] L := ⟨fun _ _ hs =>
  bodyEnd hs.df (results_tmp3 hr _ _ _) (.of hs x hx (by rw [getD_of hs hv, getD_of hs hv', getD_of hs hv'']; exact hret) hn hp)⟩
/-- A result that lies in memory. -/
theorem XE.retC [T : Tab P] {t ty : Nat} {d : TypeDesc} {s by' : Nat} {z : Value} {b off : Nat} {tt : TypeId} {cs vs : List Value} (x : α) (is : List Nat) (hr : fn.results = #[.cell t ty]) (hv : get e t = some (.pointer (some ⟨b, off, none⟩)))
    (ht : T.und ty = some d) (hd : scal d = false) (hi : T.inf ty = some (s, by', z)) (hm : Ent.blk b cs tt ∈ L) (hc : cut cs off s = some vs)
    (hx : φ x) (hret : Value.agg vs.toArray = ret x) (hn : decide is.Nodup = true) (hp : pick L is = L1 x) :
    XE w (ids L0) n .ret (bodyPostM (FW none) 0 P fn (Ret w L0 ret L1 φ)) e [] L := ⟨fun _ w' hs => by
  have hb : w'.heap[b]? = some (.cells cs.toArray tt (0, 0)) := hs.own.ok _ hm
  refine bodyEnd (v := .agg vs.toArray) hs.df ?_ (.of hs x hx hret hn hp)
  have h1 := hs.env t _ hv
  simp only [results, hr]
  simp [h1, asAddr, run_loadVarN ht hd hi hb hc]⟩
end

/-! ### Loops; places where ways meet -/
def SubE : Env → Env → Prop
  | [], _ => True
  | (i, v) :: e', e => get e i = some v ∧ SubE e' e
theorem SubE.get {e : Env} : ∀ {e' : Env}, SubE e' e → ∀ i v, get e' i = some v → get e i = some v
  | [], _, i, v, h => by simp [X.get] at h
  | (j, u) :: e', hs, i, v, h => by
    rcases get_cons.1 h with ⟨rfl, rfl⟩ | ⟨_, h⟩
    · exact hs.1
    · exact SubE.get hs.2 i v h
def Mid {α : Type} (w0 : World) (B : List Nat) (n : Nat) (ds : List Deferred) (E : α → Env) (H : α → Heap) (φ : α → Prop) : Act → World → Prop :=
  fun a w => ∃ x, φ x ∧ Sit w0 B n (E x) ds (H x) a w

theorem XE.mid {α : Type} {E : α → Env} {H : α → Heap} {φ : α → Prop} (x : α) (is : List Nat) (hx : φ x) (he : SubE (E x) e) (hn : decide is.Nodup = true) (hp : pick L is = H x) :
    XE w0 B n .normal (Exit.then (Mid w0 B n ds E H φ) Q) e ds L := ⟨fun _ _ hs =>
  ⟨x, hx, hp ▸ (hs.sub he.get).pick (of_decide_eq_true hn)⟩⟩
theorem XC.cut {α : Type} {x y : Code} (E : α → Env) (H : α → Heap) (φ : α → Prop) (h : XC P r w0 B n x (Exit.then (Mid w0 B n ds E H φ) Q) e ds L)
    (h' : ∀ x, φ x → XC P r w0 B n y Q (E x) ds (H x)) : XC P r w0 B n (.seq x y) Q e ds L := ⟨fun a w hs =>
  wpIn_seq (wpIn_mono (h.run a w hs) (fun ex a w hq => by
    cases ex with
    | normal => obtain ⟨x, hx, hs⟩ := hq; exact (h' x hx).run a w hs
    | _ => exact hq))⟩
/-- The same where the walk stands already in front of what joins. -/
theorem XC.via {α : Type} {x y : Code} (E : α → Env) (H : α → Heap) (φ : α → Prop) (h : XC P r w0 B n x (Exit.then (Mid w0 B n ds E H φ) Q) e ds L)
    (h' : ∀ x, φ x → XC P r w0 B n y Q (E x) ds (H x)) : XC P r w0 B n x (Exit.then (y.wpIn (FW r) 0 P Q) Q) e ds L := ⟨fun a w hs =>
  wpIn_mono (h.run a w hs) (fun ex a w hq => by
    cases ex with
    | normal => obtain ⟨x, hx, hs⟩ := hq; exact (h' x hx).run a w hs
    | _ => exact hq)⟩
/-- a slot's number, otherwise told -/
theorem gi {e : Env} {i : Nat} {k : IntKind} {a b : Int} (h : get e i = some (.int k a)) (hab : a = b) : get e i = some (.int k b) := hab ▸ h
theorem gv {e : Env} {i : Nat} {a b : Value} (h : get e i = some a) (hab : a = b) : get e i = some b := hab ▸ h
/-- A loop: E, H, φ: what holds at a round's head; m: what a round lowers. -/
theorem XC.loop {α : Type} {c : Code} (E : α → Env) (H : α → Heap) (φ : α → Prop) (m : α → Nat) (x0 : α) (is : List Nat) (hx : φ x0) (he : SubE (E x0) e) (hn : decide is.Nodup = true) (hp : pick L is = H x0)
    (h : ∀ x, φ x → XC P r w0 B n c (Exit.then (Mid w0 B n ds E H (fun y => φ y ∧ m y < m x)) Q) (E x) ds (H x)) : XC P r w0 B n (.loop c) Q e ds L := by
  refine ⟨fun a w hs b kk cs hro hb hr => ?_⟩
  have key : ∀ k x a w, m x = k → φ x → Sit w0 B n (E x) ds (H x) a w →
      ∃ ex a' w', Q ex a' w' ∧ ArrivesIn (Machine.fenced P (FW r)) P (lone (b.atR a (.code c :: .inLoop c :: kk)) cs w) b kk cs ex a' w' := by
    intro k
    induction k using Nat.strongRecOn with
    | _ k ih =>
      intro x a w hm hx hs
      obtain ⟨ex, a₁, w₁, hq, harr⟩ := (h x hx).run a w hs b (.inLoop c :: kk) cs hro hb hr
      cases ex with
      | normal =>
        obtain ⟨y, ⟨hy, hlt⟩, hs₁⟩ := hq
        obtain ⟨ex₂, a₂, w₂, hq₂, harr₂⟩ := ih (m y) (hm ▸ hlt) y a₁ w₁ rfl hy hs₁
        exact ⟨ex₂, a₂, w₂, hq₂, .of_steps (StepsIn.trans harr (.one (fenced_calm hb hr rfl) stepR_inLoop)) harr₂⟩
      | exit id => exact ⟨_, a₁, w₁, hq, .pass (x := .inLoop c) rfl (fun _ _ => .inl (by simp)) harr⟩
      | goto l => exact ⟨_, a₁, w₁, hq, .pass (x := .inLoop c) rfl (fun _ _ => .inl (by simp)) harr⟩
      | ret => exact ⟨_, a₁, w₁, hq, .pass (x := .inLoop c) rfl (fun _ _ => .inl (by simp)) harr⟩
      | panic ch => exact ⟨_, a₁, w₁, hq, .pass (x := .inLoop c) rfl (fun _ _ => .inl (by simp)) harr⟩
      | outgrown => exact ⟨_, a₁, w₁, hq, .pass (x := .inLoop c) rfl (fun _ _ => .inl (by simp)) harr⟩
  obtain ⟨ex, a', w', hq, harr⟩ := key _ x0 a w rfl hx (hp ▸ (hs.sub he.get).pick (of_decide_eq_true hn))
  exact ⟨ex, a', w', hq, .of_steps (.one (fenced_calm hb hr rfl) stepR_loop) harr⟩
end
end Go.X
