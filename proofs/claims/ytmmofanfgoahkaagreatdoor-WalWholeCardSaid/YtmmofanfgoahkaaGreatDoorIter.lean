/- Ranges over a function: what yield is asked, what an iterator is asked, the statement itself; the mark at a function's end. -/
import Derived.Test.YtmmofanfgoahkaaGreatDoorMake
import Derived.RangeFuncRecord
namespace Go.X
open Go

/-- A call of yield. -/
structure Yx (P : Program) (l : Nat) (vs : List Value) (w : World) (R : Ending → World → Prop) : Prop where
  out : ∃ fn tmps assign body, (Instr.yield l vs.toArray).run P w = .ok (.round l fn tmps assign body) w ∧ RoundIn (FW none) 0 P l fn tmps assign body w R
abbrev yv (l : Nat) : Value := .func (.yield l) #[] #[]

/-- An iterator: it hands out xs, one after the other, as long as yield says so. Lc: what it reads, and what must be as it was whenever yield has said yes. -/
def Seq (P : Program) (gf : FuncId) (first cap : List Value) (Lc : Heap) (xs : List (List Value)) : Prop :=
  ∀ {α β : Type} (l : Nat) (M : α → Ent) (φ : Nat → α → Prop) (Z : β → Ent) (ψ : β → Prop) (w : World) (x0 : α), φ 0 x0 → Owns w (Lc ++ [M x0]) →
    (∀ (k : Nat) (vs : List Value) x w', xs[k]? = some vs → φ k x → Owns w' (Lc ++ [M x]) → Kept (ids (Lc ++ [M x0])) w w' → (∀ b ∈ ids (Lc ++ [M x]), b ∈ ids (Lc ++ [M x0]) ∨ w.heap.size ≤ b) →
      Yx P l vs w' (Ret w' (Lc ++ [M x]) (Sum.elim (fun _ => .bool true) (fun _ => .bool false)) (Sum.elim (fun x => Lc ++ [M x]) (fun y => [Z y])) (Sum.elim (φ (k + 1)) ψ))) →
    Fx P gf (first ++ [yv l] ++ cap) w (Ret w (Lc ++ [M x0]) (fun _ => .tuple #[]) (Sum.elim (fun x => Lc ++ [M x]) (fun y => [Z y])) (Sum.elim (φ xs.length) ψ))

section
variable {P : Program} {r : Option Nat} {w0 : World} {B : List Nat} {n : Nat} {Q : Post} {e : Env} {ds : List Deferred} {L : Heap} {S : Soft}

theorem run_yieldCall {ρ : Operand → Value} {c : Call} {o : Oper} {l : Nat} {vs : List Value} {w : World} {g : Operand} {x : Next} (ho : o.op = .call c) (hc : c.callee = .value g)
    (hg : ρ g = yv l) (ha : c.args.map ρ = vs.toArray) (he : (Instr.yield l vs.toArray).run P w = .ok x w) :
    (execOp ρ o).run P w = .ok x w := by
  simp [execOp, ho, resolve, hc, ha, hg, Deferred.ofValue, invoke, he]
/-- yield is called: by contract. -/
theorem XL.yield {α : Type}  {ops : Array Oper} {rest : List Oper} {d : Nat} {g : Operand} {args : Array Operand} {tys : Array TypeId} {ty : TypeId} {pos : String} {af : Array Edge}
    {l : Nat} {vs : List Value} {ret : α → Value} {L0 : Heap} {L1 : α → Heap} {φ : α → Prop} (is js : List Nat)
    (hg : ev e g = some (yv l)) (ha : evs e args.toList = some vs) (hd : Nat.blt d n = true) (hn : decide (is ++ js).Nodup = true) (h0 : pick L is = L0)
    (hf : ∀ a w, Sit w0 B n e ds L a w → Owns w L0 → Yx P l vs w (Ret w L0 ret L1 φ))
    (h : ∀ x, φ x → XL P none w0 B n ops rest Q ((d, ret x) :: e) ds (L1 x ++ pick L js)) :
    XL P none w0 B n ops (⟨some d, .call ⟨.value g, args, tys⟩, ty, pos, af, none⟩ :: rest) Q e ds L := by
  refine ⟨fun a w hs => ?_⟩
  have hnd : (is ++ js).Nodup := of_decide_eq_true hn
  have hp : Owns w (pick L is ++ pick L js) := by rw [← pick_append]; exact hs.own.pick hnd
  subst h0
  obtain ⟨fn, tmps, assign, body, hy, hround⟩ := (hf a w hs hp.left).out
  refine wpListIn_plain rfl (fun K hK => ⟨fun _ _ => trivial, ?_⟩)
  simp only [FW_round]
  rw [semAt_of none _ _ (by simp), run_yieldCall (P := P) rfl rfl (hs.eval hg) (vs := vs) (by rw [← Array.toList_inj]; simp only [Array.toList_map]; exact hs.evals ha) hy]
  refine ⟨fun h => by simp at h, hround.mono (fun en w' hr => ?_)⟩
  cases en with
  | panicked _ => exact hr.elim
  | outgrown => exact hr.elim
  | returned v =>
    obtain ⟨x, hx, rfl, ho, hk, hnew⟩ := hr
    refine hK _ _ ((h x hx).run _ _ (Sit.put ?_ hd))
    refine hs.step hk (fun b hb => ids_pick_sub hb) (ho.append (hp.right.of_kept hk (fun b hb hb' => hp.apart b hb' hb)) (fun b hb hb' => ?_)) (fun b hb => ?_)
    · rcases hnew b hb with h1 | h1
      · exact hp.apart b h1 hb'
      · exact absurd (hp.right.live b hb') (Nat.not_lt.2 h1)
    · rw [ids_append] at hb
      rcases List.mem_append.1 hb with hb | hb
      · exact (hnew b hb).imp ids_pick_sub id
      · exact .inl (ids_pick_sub hb)

/-! ### The record -/
def noCells : Obj → Bool
  | .cells _ _ _ => false
  | _ => true
theorem put_kept (w : World) (b : Nat) (o o' : Obj) (h : w.heap[b]? = some o) (hc : noCells o = true) (hc' : noCells o' = true) : Kept [b] w (w.putObj b o') where
  os := rfl
  tape := rfl
  output := rfl
  size := by simp
  same := fun i _ hn => World.putObj_heap_other (fun e => hn (by simp [e]))
  frz := fun a _ => by
    by_cases hb : a.block = b
    · have h1 : (w.putObj b o').heap[a.block]? = some o' := by rw [hb]; exact World.putObj_heap_same (Array.getElem?_eq_some_iff.1 h).1
      have h2 : w.heap[a.block]? = some o := by rw [hb]; exact h
      simp only [World.frozen?, h1, h2]
      cases o <;> cases o' <;> first | rfl | (simp [noCells] at hc; done) | (simp [noCells] at hc'; done)
    · simp only [World.frozen?, World.putObj_heap_other hb]
theorem Sit.putObj {a : Act} {w : World} {b : Nat} {o o' : Obj} (hs : Sit w0 B n e ds (.obj b o :: L) a w) (hc : noCells o = true) (hc' : noCells o' = true) : Sit w0 B n e ds (.obj b o' :: L) a (w.putObj b o') := by
  have h : w.heap[b]? = some o := hs.own.ok _ (.head _)
  have hk := put_kept w b o o' h hc hc'
  have hL : ∀ b' ∈ X.ids L, b' ∉ [b] := fun b' hb' hm => by
    have hnd := hs.own.nd
    simp only [X.ids, Ent.ids, List.singleton_append, List.nodup_cons] at hnd
    simp at hm
    exact hnd.1 (hm ▸ hb')
  refine hs.step hk (fun b' hb' => by simp at hb'; simp [X.ids, Ent.ids, hb']) ⟨fun x hx => ?_, ?_⟩ (fun b' hb' => .inl (by simpa [X.ids, Ent.ids] using hb'))
  · rcases List.mem_cons.1 hx with rfl | hx
    · exact World.putObj_heap_same (Array.getElem?_eq_some_iff.1 h).1
    · have ho : Owns w L := ⟨fun y hy => hs.own.ok y (.tail _ hy), by have := hs.own.nd; simp only [X.ids, Ent.ids, List.singleton_append, List.nodup_cons] at this; exact this.2⟩
      exact (ho.of_kept hk hL).ok x hx
  · simpa [X.ids, Ent.ids] using hs.own.nd

/-- the mark at a function's end -/
theorem XE.mark {fn : Func} {R : Ending → World → Prop} {D : Nat} {L' : Heap} {ex : Exit} (hx : ex = .ret ∨ ex = .normal) (hm : Upd L (.obj D (.deferred (some []))) (.obj D (.deferred none)) L')
    (h : XE w0 B n ex (bodyPostM (FW none) 0 P fn R) e ds L') : XE w0 B n ex (bodyPostM (FW none) 0 P fn R) e ({ target := .collected D, args := #[] } :: ds) L := by
  refine ⟨fun a w hs => ?_⟩
  have hD : w.heap[D]? = some (.deferred (some [])) := hs.own.ok _ hm.mem
  have hk := put_kept w D _ (.deferred none) hD rfl rfl
  have hown := hm.owns (w' := w.putObj D (.deferred none)) hs.own rfl (World.putObj_heap_same (Array.getElem?_eq_some_iff.1 hD).1) hk
  have hs' : Sit w0 B n e ds L' { a with defers := ds } (w.putObj D (.deferred none)) := by
    refine Sit.step (L := L) (w := w) (a := { a with defers := ds }) ⟨hs.sz, rfl, hs.env, hs.own, hs.kept, hs.wr⟩ hk (fun b hb => mem_ids.2 ⟨_, hm.mem, hb⟩) hown (fun b hb => .inl ?_)
    have := Upd.ids hm rfl
    rw [this] at hb; exact hb
  have h1 := h.run _ _ hs'
  have htk := run_takeDeferred (P := P) hD
  rcases hx with rfl | rfl
  · show LeavesInM (FW none) 0 P fn a.tmps R a.defers .returning w
    rw [hs.df]
    exact ⟨by simp, .inl ⟨D, _, rfl, htk, h1⟩⟩
  · show LeavesInM (FW none) 0 P fn a.tmps R a.defers .returning w
    rw [hs.df]
    exact ⟨by simp, .inl ⟨D, _, rfl, htk, h1⟩⟩

theorem Sit.frame {F K K' : Heap} {e' : Env} {ds' : List Deferred} {a a' : Act} {w w' : World} (h : Sit w0 B n e ds (F ++ K) a w) (h' : Sit w (ids K) n e' ds' K' a' w') : Sit w0 B n e' ds' (F ++ K') a' w' where
  sz := h'.sz
  df := h'.df
  env := h'.env
  own := (h.own.left.of_kept h'.kept (fun b hb => h.own.apart b hb)).append h'.own (fun b hb hm => (h'.wr b hm).elim (h.own.apart b hb) (fun hle => absurd (h.own.left.live b hb) (Nat.not_lt.2 hle)))
  kept := h.kept.trans h'.kept (fun b hb => h.wr b (by rw [ids_append]; exact List.mem_append_right _ hb))
  wr := fun b hb => by
    rw [ids_append] at hb
    rcases List.mem_append.1 hb with hb | hb
    · exact h.wr b (by rw [ids_append]; exact List.mem_append_left _ hb)
    · rcases h'.wr b hb with h1 | h1
      · exact h.wr b (by rw [ids_append]; exact List.mem_append_right _ h1)
      · exact .inr (Nat.le_trans h.kept.size h1)
theorem Sit.grpR {G : Heap} {a : Act} {w : World} (h : Sit w0 B n e ds (L ++ G) a w) : Sit w0 B n e ds (L ++ [grp G]) a w :=
  (Sit.shutG (h.perm List.perm_append_comm)).perm (List.perm_append_comm (l₁ := [grp G]))
theorem Sit.ungrpR {G : Heap} {a : Act} {w : World} (h : Sit w0 B n e ds (L ++ [grp G]) a w) : Sit w0 B n e ds (L ++ G) a w :=
  (Sit.openG (h.perm (List.perm_append_comm (l₂ := [grp G])))).perm List.perm_append_comm
theorem ids_grpR (L G : Heap) : ids (L ++ [grp G]) = ids (L ++ G) := by rw [ids_append, ids_append]; simp [X.ids, grp_ids]
theorem Owns.ungrpR {G : Heap} {w : World} (h : Owns w (L ++ [X.grp G])) : Owns w (L ++ G) :=
  ⟨fun x hx => (List.mem_append.1 hx).elim (fun hx => h.ok x (List.mem_append_left _ hx)) (fun hx => (Owns.grp (List.mem_append_right _ (.head _)) h).ok x hx), ids_grpR L G ▸ h.nd⟩
/-! ### The statement -/
abbrev markOf (D : Nat) : Deferred := { target := .collected D, args := #[] }
/-- what a round's body is to come to -/
def BodyPost {α β : Type} (w0 : World) (B : List Nat) (n : Nat) (H : α → Heap) (φ : α → Prop) (Z : β → Heap) (ψ : β → Prop) (jmp : β → Code) : Post
  | .normal, a, w => ∃ x, φ x ∧ Sit w0 B n [] [] (H x) a w
  | .ret, a, w => ∃ y, ψ y ∧ jmp y = .ret ∧ Sit w0 B n [] [] (Z y) a w
  | .exit id, a, w => ∃ y, ψ y ∧ jmp y = .exit id ∧ Sit w0 B n [] [] (Z y) a w
  | .goto t, a, w => ∃ y, ψ y ∧ jmp y = .goto t ∧ Sit w0 B n [] [] (Z y) a w
  | _, _, _ => False
theorem XE.round {α β : Type} {H : α → Heap} {φ : α → Prop} {Z : β → Heap} {ψ : β → Prop} {jmp : β → Code} (x : α) (is : List Nat) (hx : φ x) (hn : decide is.Nodup = true) (hp : pick L is = H x) :
    XE w0 B n .normal (BodyPost w0 B n H φ Z ψ jmp) e [] L := ⟨fun _ _ hs => ⟨x, hx, hp ▸ (hs.sub fun i v h => by simp [X.get] at h).pick (of_decide_eq_true hn)⟩⟩
theorem XE.outRet {α β : Type} {H : α → Heap} {φ : α → Prop} {Z : β → Heap} {ψ : β → Prop} {jmp : β → Code} (y : β) (is : List Nat) (hy : ψ y) (hj : jmp y = .ret) (hn : decide is.Nodup = true) (hp : pick L is = Z y) :
    XE w0 B n .ret (BodyPost w0 B n H φ Z ψ jmp) e [] L := ⟨fun _ _ hs => ⟨y, hy, hj, hp ▸ (hs.sub fun i v h => by simp [X.get] at h).pick (of_decide_eq_true hn)⟩⟩
theorem XE.outExit {α β : Type} {H : α → Heap} {φ : α → Prop} {Z : β → Heap} {ψ : β → Prop} {jmp : β → Code} {id : Nat} (y : β) (is : List Nat) (hy : ψ y) (hj : jmp y = .exit id) (hn : decide is.Nodup = true) (hp : pick L is = Z y) :
    XE w0 B n (.exit id) (BodyPost w0 B n H φ Z ψ jmp) e [] L := ⟨fun _ _ hs => ⟨y, hy, hj, hp ▸ (hs.sub fun i v h => by simp [X.get] at h).pick (of_decide_eq_true hn)⟩⟩

/-- yield's arguments in their slots -/
def zipE : List Tmp → List Value → Env → Env
  | p :: ps, v :: vs, e => zipE ps vs ((p, v) :: e)
  | _, _, e => e
theorem Sit.zip {w : World} : ∀ {ps : List Tmp} {vs : List Value} {e : Env} {a : Act}, ps.all (fun p => Nat.blt p n) = true → ps.length = vs.length → Sit w0 B n e ds L a w →
    Sit w0 B n (zipE ps vs e) ds L { a with tmps := (ps.zip vs).foldl (fun t (p, v) => t.setIfInBounds p v) a.tmps } w
  | [], vs, e, a, _, _, hs => by cases vs <;> exact hs
  | p :: ps, [], e, a, _, h, _ => by cases h
  | p :: ps, v :: vs, e, a, hp, hl, hs => by
    simp only [List.all_cons, Bool.and_eq_true] at hp
    have := Sit.zip (a := a.put (some p) v) hp.2 (by simpa using hl) (hs.put (v := v) hp.1)
    exact this
theorem inRound_FW (l : Nat) : (FW none).inRound l = FW (some l) := rfl

theorem XC.rangeFunc {α β : Type} {g : Operand} {ps : Array Tmp} {assign body : Code} {gf : FuncId} {first cap : Array Value} {Lc : Heap} {xs : List (List Value)} (H : α → Heap) (φ : Nat → α → Prop) (Z : β → Heap) (ψ : β → Prop) (jmp : β → Code) (x0 : α) (is : List Nat)
    (E' : List Value → Env) (hg : ev e g = some (.func (.func gf) first cap)) (hseq : Seq P gf first.toList cap.toList Lc xs) (hx0 : φ 0 x0) (hn : decide is.Nodup = true) (hp : pick L is = Lc ++ H x0)
    (hps : ∀ (k : Nat) (vs : List Value), xs[k]? = some vs → vs.length = ps.size) (hpn : ps.toList.all (fun p => Nat.blt p n) = true)
    (hassign : ∀ l (k : Nat) (vs : List Value) w (L' : Heap), xs[k]? = some vs → XC P (some l) w (ids L') n assign (Exit.then (Mid w (ids L') n [] (fun _ : Unit => E' vs) (fun _ => L') (fun _ => True)) (fun _ _ _ => False)) (zipE ps.toList vs e) [] L')
    (hbody : ∀ l (k : Nat) (vs : List Value) x w, xs[k]? = some vs → φ k x → Kept B w0 w → XC P (some l) w (ids (Lc ++ H x)) n body (BodyPost w (ids (Lc ++ H x)) n (fun x => Lc ++ H x) (φ (k + 1)) Z ψ jmp) (E' vs) [] (Lc ++ H x))
    (hdone : ∀ D x, φ xs.length x → XE w0 B n .normal Q e (markOf D :: ds) (.obj D (.deferred (some [])) :: (Lc ++ H x)))
    (hstop : ∀ D y, ψ y → XC P none w0 B n (jmp y) Q e (markOf D :: ds) (.obj D (.deferred (some [])) :: Z y)) :
    XC P none w0 B n (.rangeFunc g ps assign body) Q e ds L := by
  refine ⟨fun a w hs0 => wpIn_rangeFunc fun fn _ => ?_⟩
  have hs : Sit w0 B n e ds (Lc ++ H x0) a w := hp ▸ hs0.pick (of_decide_eq_true hn)
  obtain ⟨rec, hrec⟩ : ∃ rec : LoopState → Option Code → Loop, rec = fun st pe => { state := st, pending := pe, fn, tmps := a.tmps, params := ps, assign, body, defers := w.heap.size } := ⟨_, rfl⟩
  have hent := run_enterLoop_outer (P := P) (w := w) fn a.tmps ps assign body
  -- the two new blocks
  have hs1 := hs.new (.deferred (some [])) trivial (.obj w.heap.size (.deferred (some []))) rfl (push_at w _)
  have hsz : ({ w with heap := w.heap.push (.deferred (some [])) } : World).heap.size = w.heap.size + 1 := by simp
  have hs2 := hs1.new (.loop (rec .ready none)) trivial (.obj (w.heap.size + 1) (.loop (rec .ready none))) (by simp [Ent.ids]) (by
    have := push_at ({ w with heap := w.heap.push (.deferred (some [])) } : World) (.loop (rec .ready none))
    rw [hsz] at this
    exact this)
  obtain ⟨w1, hw1⟩ : ∃ w1 : World, ({ ({ w with heap := w.heap.push (.deferred (some [])) } : World) with heap := ({ w with heap := w.heap.push (.deferred (some [])) } : World).heap.push (.loop (rec .ready none)) } : World) = w1 := ⟨_, rfl⟩
  rw [hw1] at hs2
  have hw1' : ((w.alloc (.deferred (some []))).alloc (.loop { state := .ready, pending := none, fn, tmps := a.tmps, params := ps, assign, body, defers := w.heap.size })) = w1 := by rw [← hw1, hrec]; rfl
  rw [hw1'] at hent
  obtain ⟨l, hl⟩ : ∃ l, w.heap.size + 1 = l := ⟨_, rfl⟩
  obtain ⟨D, hDe⟩ : ∃ D, w.heap.size = D := ⟨_, rfl⟩
  rw [hl] at hent hs2
  rw [hDe] at hent hs2
  have hgv : a.eval g = .func (.func gf) first cap := hs.eval hg
  let M : α → Heap := fun x => .obj l (.loop (rec .ready none)) :: (.obj D (.deferred (some [])) :: H x)
  let Z' : β → Heap := fun y => .obj l (.loop (rec .done (some (jmp y)))) :: (.obj D (.deferred (some [])) :: Z y)
  let Mg : α → Ent := fun x => grp (M x)
  let Zg : β → Ent := fun y => grp (Z' y)
  have hperm : ∀ x, List.Perm (.obj l (.loop (rec .ready none)) :: (.obj D (.deferred (some [])) :: (Lc ++ H x))) (Lc ++ M x) := fun x => by
    show List.Perm (([.obj l (.loop (rec .ready none)), .obj D (.deferred (some []))] ++ Lc) ++ H x) (Lc ++ ([.obj l (.loop (rec .ready none)), .obj D (.deferred (some []))] ++ H x))
    rw [← List.append_assoc]
    exact List.perm_append_comm.append_right _
  have hs3 := hs2.perm (hperm x0)
  -- the contract of yield
  have hyield : ∀ (k : Nat) (vs : List Value) x w', xs[k]? = some vs → φ k x → Owns w' (Lc ++ [Mg x]) → Kept (ids (Lc ++ [Mg x0])) w1 w' → (∀ b ∈ ids (Lc ++ [Mg x]), b ∈ ids (Lc ++ [Mg x0]) ∨ w1.heap.size ≤ b) →
      Yx P l vs w' (Ret w' (Lc ++ [Mg x]) (Sum.elim (fun _ => .bool true) (fun _ => .bool false)) (Sum.elim (fun x => Lc ++ [Mg x]) (fun y => [Zg y])) (Sum.elim (φ (k + 1)) ψ)) := by
    intro k vs x w' hvs hx hown hkept hfr
    replace hown : Owns w' (Lc ++ M x) := hown.ungrpR
    replace hkept : Kept (ids (Lc ++ M x0)) w1 w' := by rw [← ids_grpR]; exact hkept
    replace hfr : ∀ b ∈ ids (Lc ++ M x), b ∈ ids (Lc ++ M x0) ∨ w1.heap.size ≤ b := by rw [← ids_grpR Lc (M x), ← ids_grpR Lc (M x0)]; exact hfr
    have hgM : ids (Lc ++ [Mg x]) = ids (Lc ++ M x) := ids_grpR _ _
    have hrecw : w'.heap[l]? = some (.loop (rec .ready none)) := hown.ok _ (List.mem_append_right _ (.head _))
    have hlen := hps k vs hvs
    have hro : rec .ready none = { state := .ready, pending := none, fn, tmps := a.tmps, params := ps, assign, body, defers := w.heap.size } := by rw [hrec]
    refine ⟨fn, (ps.zip vs.toArray).foldl (fun t (p, v) => t.setIfInBounds p v) a.tmps, assign, body, ?_, ?_⟩
    · have := run_yield (P := P) hrecw (args := vs.toArray) (by rw [hro]; simpa using hlen)
      rw [hro] at this
      exact this
    · -- the round
      refine roundIn_of_wpIn trivial ?_
      rw [inRound_FW]
      have hownP := hown
      have hs' : Sit w' (ids (Lc ++ M x)) n e [] (Lc ++ M x) { tmps := a.tmps, defers := [] } w' := ⟨hs.sz, rfl, hs.env, hown, .refl _ _, fun b hb => .inl hb⟩
      have hs'' := Sit.zip (ps := ps.toList) (vs := vs) hpn (by simpa using hlen.symm) hs'
      have hz : ((ps.zip vs.toArray).foldl (fun t (p, v) => t.setIfInBounds p v) a.tmps) = ((ps.toList.zip vs).foldl (fun t (p, v) => t.setIfInBounds p v) a.tmps) := by
        rw [← Array.foldl_toList]; simp
      rw [hz]
      refine wpIn_mono ((hassign l k vs w' (Lc ++ M x) hvs).run _ _ hs'') (fun ex a1 w2 hq => ?_)
      cases ex with
      | normal =>
        obtain ⟨_, _, hsA⟩ := hq
        have hsB := hsA.perm (hperm x).symm
        have hrec2 : w2.heap[l]? = some (.loop (rec .ready none)) := hsB.own.ok _ (.head _)
        have hbeg := run_beginRound (P := P) hrec2 (by rw [hro])
        have hbusy : ({ rec .ready none with state := .busy } : Loop) = rec .busy none := by rw [hrec]
        rw [hbusy] at hbeg
        refine ⟨_, hbeg, ?_⟩
        have hsC := hsB.putObj (o' := .loop (rec .busy none)) rfl rfl
        obtain ⟨w3, hw3⟩ : ∃ w3, w2.putObj l (.loop (rec .busy none)) = w3 := ⟨_, rfl⟩
        rw [hw3] at hsC ⊢
        have hids : ids (.obj l (.loop (rec .busy none)) :: (.obj D (.deferred (some [])) :: (Lc ++ H x))) = l :: D :: ids (Lc ++ H x) := by simp [X.ids, Ent.ids]
        have hnd := hsC.own.nd
        rw [hids] at hnd
        obtain ⟨hnl, hnd2⟩ := List.nodup_cons.1 hnd
        obtain ⟨hnD, _⟩ := List.nodup_cons.1 hnd2
        have hownC : Owns w3 (Lc ++ H x) := ⟨fun y hy => hsC.own.ok y (.tail _ (.tail _ hy)), (List.nodup_cons.1 hnd2).2⟩
        -- as seen from the activation
        have hwr : ∀ b ∈ ids (Lc ++ M x), b ∈ B ∨ w0.heap.size ≤ b := fun b hb => (hfr b hb).elim (hs3.wr b) (fun h => .inr (Nat.le_trans hs3.kept.size h))
        have hkB : Kept B w0 w3 := (hs3.kept.trans hkept hs3.wr).trans hsC.kept hwr
        have hsD : Sit w3 (ids (Lc ++ H x)) n (E' vs) [] (Lc ++ H x) a1 w3 := ⟨hsC.sz, hsC.df, hsC.env, hownC, .refl _ _, fun b hb => .inl hb⟩
        refine wpIn_mono ((hbody l k vs x w3 hvs hx hkB).run _ _ hsD) (fun ex2 a2 w4 hq2 => ?_)
        have hfin : ∀ {K : Heap} (st : LoopState) (pe : Option Code) (jump : Option Code), (if jump.isNone = true then LoopState.ready else .done) = st → jump = pe → Sit w3 (ids (Lc ++ H x)) n [] [] K a2 w4 →
            ∃ w5, (Instr.endRound l jump).run P w4 = .ok (.bool jump.isNone) w5 ∧ Sit w' (ids (Lc ++ M x)) n [] [] (.obj l (.loop (rec st pe)) :: (.obj D (.deferred (some [])) :: K)) a2 w5 := by
          intro K st pe jump hst hpe hsK
          have hsE := Sit.frame (F := [.obj l (.loop (rec .busy none)), .obj D (.deferred (some []))]) hsC hsK
          have hrec4 : w4.heap[l]? = some (.loop (rec .busy none)) := hsE.own.ok _ (.head _)
          have hend := run_endRound (P := P) jump hrec4
          refine ⟨_, hend, ?_⟩
          have hnew : ({ rec .busy none with state := if jump.isNone = true then LoopState.ready else .done, pending := jump } : Loop) = rec st pe := by rw [hrec, hst, hpe]
          rw [hnew]
          exact hsE.putObj rfl rfl
        cases ex2 with
        | normal =>
          obtain ⟨x', hx', hsK⟩ := hq2
          obtain ⟨w5, he5, hs5⟩ := hfin .ready none none rfl rfl hsK
          have hs6 := hs5.perm (hperm x')
          have hs7 := hs6.grpR
          exact ⟨_, w5, he5, .inl x', hx', rfl, hs7.own, by rw [hgM]; exact hs7.kept, by rw [hgM]; exact hs7.wr⟩
        | ret =>
          obtain ⟨y, hy, hjy, hsK⟩ := hq2
          obtain ⟨w5, he5, hs5⟩ := hfin .done (some (jmp y)) (some .ret) rfl (by rw [hjy]) hsK
          have hs7 := Sit.grpR (L := []) hs5
          exact ⟨_, w5, he5, .inr y, hy, rfl, hs7.own, by rw [hgM]; exact hs7.kept, by rw [hgM]; exact hs7.wr⟩
        | exit id =>
          obtain ⟨y, hy, hjy, hsK⟩ := hq2
          obtain ⟨w5, he5, hs5⟩ := hfin .done (some (jmp y)) (some (.exit id)) rfl (by rw [hjy]) hsK
          have hs7 := Sit.grpR (L := []) hs5
          exact ⟨_, w5, he5, .inr y, hy, rfl, hs7.own, by rw [hgM]; exact hs7.kept, by rw [hgM]; exact hs7.wr⟩
        | goto t =>
          obtain ⟨y, hy, hjy, hsK⟩ := hq2
          obtain ⟨w5, he5, hs5⟩ := hfin .done (some (jmp y)) (some (.goto t)) rfl (by rw [hjy]) hsK
          have hs7 := Sit.grpR (L := []) hs5
          exact ⟨_, w5, he5, .inr y, hy, rfl, hs7.own, by rw [hgM]; exact hs7.kept, by rw [hgM]; exact hs7.wr⟩
        | panic c => exact hq2.elim
        | outgrown => exact hq2.elim
      | exit id => exact hq.elim
      | goto t => exact hq.elim
      | ret => exact hq.elim
      | panic c => exact hq.elim
      | outgrown => exact hq.elim
  have hfx := hseq l Mg φ Zg ψ w1 x0 hx0 hs3.grpR.own hyield
  have hargs : first ++ #[yv l] ++ cap = (first.toList ++ [yv l] ++ cap.toList).toArray := by apply Array.ext'; simp
  refine ⟨l, [markOf D], w1, { target := .fn (.func gf) cap, args := first ++ #[yv l] }, w1, gf, first ++ #[yv l] ++ cap, w1, hent, ?_, fun _ _ => trivial, ?_, fun h => by simp at h, ?_⟩
  · have hc : a.eval (.const (yv l)) = yv l := rfl
    simp only [resolve, hgv, Deferred.ofValue]
    simp [hc]
  · exact hfx.enters _ _
  · rw [hargs]
    refine (calls_in hfx.calls).mono (fun en w3 hr => ?_)
    cases en with
    | panicked _ => exact hr.elim
    | outgrown => exact hr.elim
    | returned v =>
      obtain ⟨z, hz, _, ho, hk, hnew⟩ := hr
      have hsF0 := hs3.grpR.step hk (fun b hb => hb) ho hnew
      have hpend : ∀ st pe, st ≠ .busy → w3.heap[l]? = some (.loop (rec st pe)) → (Instr.endLoop l).run P w3 = .ok pe (w3.putObj l (.loop (rec .exhausted pe))) := fun st pe hst h => by
        have h' := run_endLoop (P := P) h (by rw [hrec]; exact hst)
        rw [hrec] at h' ⊢
        exact h'
      cases z with
      | inl x =>
        have hsG := (Sit.ungrpR hsF0).perm (hperm x).symm
        have hrec3 : w3.heap[l]? = some (.loop (rec .ready none)) := hsG.own.ok _ (.head _)
        have hend := hpend _ _ (by simp) hrec3
        refine ⟨none, _, hend, ?_⟩
        have hsH := hsG.putObj (o' := .loop (rec .exhausted none)) rfl rfl
        have hsI := hsH.subl (List.sublist_cons_self _ _)
        exact (hdone D x hz).run _ _ ⟨hsI.sz, by show [markOf D] ++ a.defers = _; rw [hs.df]; rfl, hsI.env, hsI.own, hsI.kept, hsI.wr⟩
      | inr y =>
        have hsF := Sit.ungrpR (L := []) hsF0
        have hrec3 : w3.heap[l]? = some (.loop (rec .done (some (jmp y)))) := hsF.own.ok _ (.head _)
        have hend := hpend _ _ (by simp) hrec3
        refine ⟨some (jmp y), _, hend, ?_⟩
        have hsH := hsF.putObj (o' := .loop (rec .exhausted (some (jmp y)))) rfl rfl
        have hsI := hsH.subl (List.sublist_cons_self _ _)
        exact (hstop D y hz).run _ _ ⟨hsI.sz, by show [markOf D] ++ a.defers = _; rw [hs.df]; rfl, hsI.env, hsI.own, hsI.kept, hsI.wr⟩
end
end Go.X
