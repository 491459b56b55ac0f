/- Ranges over a function whose memory the loop's body may change. -/
import Derived.Test.YtmmofanfgoahkaaDoorIter
namespace Go.X
open Go
/-- An iterator over memory that is the loop's own (Lc, by the loop's state x): it hands out xs, whatever the rounds make of that memory, as long as φ holds. -/
def SeqA (P : Program) (gf : FuncId) (first cap : List Value) {α : Type} (Lc : α → Heap) (φ : Nat → α → Prop) (xs : List (List Value)) : Prop :=
  ∀ {β : Type} (l : Nat) (M : α → Ent) (Z : β → Ent) (ψ : β → Prop) (w : World) (x0 : α), φ 0 x0 → Owns w (Lc x0 ++ [M x0]) →
    (∀ (k : Nat) (vs : List Value) x w', xs[k]? = some vs → φ k x → Owns w' (Lc x ++ [M x]) → Kept (ids (Lc x0 ++ [M x0])) w w' → (∀ b ∈ ids (Lc x ++ [M x]), b ∈ ids (Lc x0 ++ [M x0]) ∨ w.heap.size ≤ b) →
      Yx P l vs w' (Ret w' (Lc x ++ [M x]) (Sum.elim (fun _ => .bool true) (fun _ => .bool false)) (Sum.elim (fun x => Lc x ++ [M x]) (fun y => [Z y])) (Sum.elim (φ (k + 1)) ψ))) →
    Fx P gf (first ++ [yv l] ++ cap) w (Ret w (Lc x0 ++ [M x0]) (fun _ => .tuple #[]) (Sum.elim (fun x => Lc x ++ [M x]) (fun y => [Z y])) (Sum.elim (φ xs.length) ψ))
section
variable {P : Program} {r : Option Nat} {w0 : World} {B : List Nat} {n : Nat} {Q : Post} {e : Env} {ds : List Deferred} {L : Heap} {S : Soft}
theorem XC.rangeFuncA {α β : Type} {g : Operand} {ps : Array Tmp} {assign body : Code} {gf : FuncId} {first cap : Array Value} {xs : List (List Value)} (Lc H : α → Heap) (φ : Nat → α → Prop) (Z : β → Heap) (ψ : β → Prop) (jmp : β → Code) (x0 : α) (is : List Nat)
    (E' : List Value → Env) (hg : ev e g = some (.func (.func gf) first cap)) (hseq : SeqA P gf first.toList cap.toList Lc φ xs) (hx0 : φ 0 x0) (hn : decide is.Nodup = true) (hp : pick L is = Lc x0 ++ H x0)
    (hps : ∀ (k : Nat) (vs : List Value), xs[k]? = some vs → vs.length = ps.size) (hpn : ps.toList.all (fun p => Nat.blt p n) = true)
    (hassign : ∀ l (k : Nat) (vs : List Value) w (L' : Heap), xs[k]? = some vs → XC P (some l) w (ids L') n assign (Exit.then (Mid w (ids L') n [] (fun _ : Unit => E' vs) (fun _ => L') (fun _ => True)) (fun _ _ _ => False)) (zipE ps.toList vs e) [] L')
    (hbody : ∀ l (k : Nat) (vs : List Value) x w, xs[k]? = some vs → φ k x → Kept B w0 w → XC P (some l) w (ids (Lc x ++ H x)) n body (BodyPost w (ids (Lc x ++ H x)) n (fun x => Lc x ++ H x) (φ (k + 1)) Z ψ jmp) (E' vs) [] (Lc x ++ H x))
    (hdone : ∀ D x, φ xs.length x → XE w0 B n .normal Q e (markOf D :: ds) (.obj D (.deferred (some [])) :: (Lc x ++ H x)))
    (hstop : ∀ D y, ψ y → XC P none w0 B n (jmp y) Q e (markOf D :: ds) (.obj D (.deferred (some [])) :: Z y)) :
    XC P none w0 B n (.rangeFunc g ps assign body) Q e ds L := by
  refine ⟨fun a w hs0 => wpIn_rangeFunc fun fn _ => ?_⟩
  have hs : Sit w0 B n e ds (Lc x0 ++ H x0) a w := hp ▸ hs0.pick (of_decide_eq_true hn)
  obtain ⟨rec, hrec⟩ : ∃ rec : LoopState → Option Code → Loop, rec = fun st pe => { state := st, pending := pe, fn, tmps := a.tmps, params := ps, assign, body, defers := w.heap.size } := ⟨_, rfl⟩
  have hent := run_enterLoop_outer (P := P) (w := w) fn a.tmps ps assign body
  -- the two new blocks
  have hs1 := hs.new (.deferred (some [])) trivial (.obj w.heap.size (.deferred (some []))) rfl (push_at w _)
  have hsz : ({ w with heap := w.heap.push (.deferred (some [])) } : World).heap.size = w.heap.size + 1 := by simp
  have hs2 := hs1.new (.loop (rec .ready none)) trivial (.obj (w.heap.size + 1) (.loop (rec .ready none))) (by simp [Ent.ids]) (by
    have := push_at ({ w with heap := w.heap.push (.deferred (some [])) } : World) (.loop (rec .ready none))
    rw [hsz] at this
    exact this)
  obtain ⟨w1, hw1⟩ : ∃ w1 : World, ({ ({ w with heap := w.heap.push (.deferred (some [])) } : World) with heap := ({ w with heap := w.heap.push (.deferred (some [])) } : World).heap.push (.loop (rec .ready none)) } : World) = w1 := ⟨_, rfl⟩
  rw [hw1] at hs2
  have hw1' : ((w.alloc (.deferred (some []))).alloc (.loop { state := .ready, pending := none, fn, tmps := a.tmps, params := ps, assign, body, defers := w.heap.size })) = w1 := by rw [← hw1, hrec]; rfl
  rw [hw1'] at hent
  obtain ⟨l, hl⟩ : ∃ l, w.heap.size + 1 = l := ⟨_, rfl⟩
  obtain ⟨D, hDe⟩ : ∃ D, w.heap.size = D := ⟨_, rfl⟩
  rw [hl] at hent hs2
  rw [hDe] at hent hs2
  have hgv : a.eval g = .func (.func gf) first cap := hs.eval hg
  let M : α → Heap := fun x => .obj l (.loop (rec .ready none)) :: (.obj D (.deferred (some [])) :: H x)
  let Z' : β → Heap := fun y => .obj l (.loop (rec .done (some (jmp y)))) :: (.obj D (.deferred (some [])) :: Z y)
  let Mg : α → Ent := fun x => grp (M x)
  let Zg : β → Ent := fun y => grp (Z' y)
  have hperm : ∀ x, List.Perm (.obj l (.loop (rec .ready none)) :: (.obj D (.deferred (some [])) :: (Lc x ++ H x))) (Lc x ++ M x) := fun x => by
    show List.Perm (([.obj l (.loop (rec .ready none)), .obj D (.deferred (some []))] ++ Lc x) ++ H x) (Lc x ++ ([.obj l (.loop (rec .ready none)), .obj D (.deferred (some []))] ++ H x))
    rw [← List.append_assoc]
    exact List.perm_append_comm.append_right _
  have hs3 := hs2.perm (hperm x0)
  -- the contract of yield
  have hyield : ∀ (k : Nat) (vs : List Value) x w', xs[k]? = some vs → φ k x → Owns w' (Lc x ++ [Mg x]) → Kept (ids (Lc x0 ++ [Mg x0])) w1 w' → (∀ b ∈ ids (Lc x ++ [Mg x]), b ∈ ids (Lc x0 ++ [Mg x0]) ∨ w1.heap.size ≤ b) →
      Yx P l vs w' (Ret w' (Lc x ++ [Mg x]) (Sum.elim (fun _ => .bool true) (fun _ => .bool false)) (Sum.elim (fun x => Lc x ++ [Mg x]) (fun y => [Zg y])) (Sum.elim (φ (k + 1)) ψ)) := by
    intro k vs x w' hvs hx hown hkept hfr
    replace hown : Owns w' (Lc x ++ M x) := hown.ungrpR
    replace hkept : Kept (ids (Lc x0 ++ M x0)) w1 w' := by rw [← ids_grpR]; exact hkept
    replace hfr : ∀ b ∈ ids (Lc x ++ M x), b ∈ ids (Lc x0 ++ M x0) ∨ w1.heap.size ≤ b := by rw [← ids_grpR (Lc x) (M x), ← ids_grpR (Lc x0) (M x0)]; exact hfr
    have hgM : ids (Lc x ++ [Mg x]) = ids (Lc x ++ M x) := ids_grpR _ _
    have hrecw : w'.heap[l]? = some (.loop (rec .ready none)) := hown.ok _ (List.mem_append_right _ (.head _))
    have hlen := hps k vs hvs
    have hro : rec .ready none = { state := .ready, pending := none, fn, tmps := a.tmps, params := ps, assign, body, defers := w.heap.size } := by rw [hrec]
    refine ⟨fn, (ps.zip vs.toArray).foldl (fun t (p, v) => t.setIfInBounds p v) a.tmps, assign, body, ?_, ?_⟩
    · have := run_yield (P := P) hrecw (args := vs.toArray) (by rw [hro]; simpa using hlen)
      rw [hro] at this
      exact this
    · -- the round
      refine roundIn_of_wpIn trivial ?_
      rw [inRound_FW]
      have hownP := hown
      have hs' : Sit w' (ids (Lc x ++ M x)) n e [] (Lc x ++ M x) { tmps := a.tmps, defers := [] } w' := ⟨hs.sz, rfl, hs.env, hown, .refl _ _, fun b hb => .inl hb⟩
      have hs'' := Sit.zip (ps := ps.toList) (vs := vs) hpn (by simpa using hlen.symm) hs'
      have hz : ((ps.zip vs.toArray).foldl (fun t (p, v) => t.setIfInBounds p v) a.tmps) = ((ps.toList.zip vs).foldl (fun t (p, v) => t.setIfInBounds p v) a.tmps) := by
        rw [← Array.foldl_toList]; simp
      rw [hz]
      refine wpIn_mono ((hassign l k vs w' (Lc x ++ M x) hvs).run _ _ hs'') (fun ex a1 w2 hq => ?_)
      cases ex with
      | normal =>
        obtain ⟨_, _, hsA⟩ := hq
        have hsB := hsA.perm (hperm x).symm
        have hrec2 : w2.heap[l]? = some (.loop (rec .ready none)) := hsB.own.ok _ (.head _)
        have hbeg := run_beginRound (P := P) hrec2 (by rw [hro])
        have hbusy : ({ rec .ready none with state := .busy } : Loop) = rec .busy none := by rw [hrec]
        rw [hbusy] at hbeg
        refine ⟨_, hbeg, ?_⟩
        have hsC := hsB.putObj (o' := .loop (rec .busy none)) rfl rfl
        obtain ⟨w3, hw3⟩ : ∃ w3, w2.putObj l (.loop (rec .busy none)) = w3 := ⟨_, rfl⟩
        rw [hw3] at hsC ⊢
        have hids : ids (.obj l (.loop (rec .busy none)) :: (.obj D (.deferred (some [])) :: (Lc x ++ H x))) = l :: D :: ids (Lc x ++ H x) := by simp [X.ids, Ent.ids]
        have hnd := hsC.own.nd
        rw [hids] at hnd
        obtain ⟨hnl, hnd2⟩ := List.nodup_cons.1 hnd
        obtain ⟨hnD, _⟩ := List.nodup_cons.1 hnd2
        have hownC : Owns w3 (Lc x ++ H x) := ⟨fun y hy => hsC.own.ok y (.tail _ (.tail _ hy)), (List.nodup_cons.1 hnd2).2⟩
        -- as seen from the activation
        have hwr : ∀ b ∈ ids (Lc x ++ M x), b ∈ B ∨ w0.heap.size ≤ b := fun b hb => (hfr b hb).elim (hs3.wr b) (fun h => .inr (Nat.le_trans hs3.kept.size h))
        have hkB : Kept B w0 w3 := (hs3.kept.trans hkept hs3.wr).trans hsC.kept hwr
        have hsD : Sit w3 (ids (Lc x ++ H x)) n (E' vs) [] (Lc x ++ H x) a1 w3 := ⟨hsC.sz, hsC.df, hsC.env, hownC, .refl _ _, fun b hb => .inl hb⟩
        refine wpIn_mono ((hbody l k vs x w3 hvs hx hkB).run _ _ hsD) (fun ex2 a2 w4 hq2 => ?_)
        have hfin : ∀ {K : Heap} (st : LoopState) (pe : Option Code) (jump : Option Code), (if jump.isNone = true then LoopState.ready else .done) = st → jump = pe → Sit w3 (ids (Lc x ++ H x)) n [] [] K a2 w4 →
            ∃ w5, (Instr.endRound l jump).run P w4 = .ok (.bool jump.isNone) w5 ∧ Sit w' (ids (Lc x ++ M x)) n [] [] (.obj l (.loop (rec st pe)) :: (.obj D (.deferred (some [])) :: K)) a2 w5 := by
          intro K st pe jump hst hpe hsK
          have hsE := Sit.frame (F := [.obj l (.loop (rec .busy none)), .obj D (.deferred (some []))]) hsC hsK
          have hrec4 : w4.heap[l]? = some (.loop (rec .busy none)) := hsE.own.ok _ (.head _)
          have hend := run_endRound (P := P) jump hrec4
          refine ⟨_, hend, ?_⟩
          have hnew : ({ rec .busy none with state := if jump.isNone = true then LoopState.ready else .done, pending := jump } : Loop) = rec st pe := by rw [hrec, hst, hpe]
          rw [hnew]
          exact hsE.putObj rfl rfl
        cases ex2 with
        | normal =>
          obtain ⟨x', hx', hsK⟩ := hq2
          obtain ⟨w5, he5, hs5⟩ := hfin .ready none none rfl rfl hsK
          have hs6 := hs5.perm (hperm x')
          have hs7 := hs6.grpR
          exact ⟨_, w5, he5, .inl x', hx', rfl, hs7.own, by rw [hgM]; exact hs7.kept, by rw [hgM]; exact hs7.wr⟩
        | ret =>
          obtain ⟨y, hy, hjy, hsK⟩ := hq2
          obtain ⟨w5, he5, hs5⟩ := hfin .done (some (jmp y)) (some .ret) rfl (by rw [hjy]) hsK
          have hs7 := Sit.grpR (L := []) hs5
          exact ⟨_, w5, he5, .inr y, hy, rfl, hs7.own, by rw [hgM]; exact hs7.kept, by rw [hgM]; exact hs7.wr⟩
        | exit id =>
          obtain ⟨y, hy, hjy, hsK⟩ := hq2
          obtain ⟨w5, he5, hs5⟩ := hfin .done (some (jmp y)) (some (.exit id)) rfl (by rw [hjy]) hsK
          have hs7 := Sit.grpR (L := []) hs5
          exact ⟨_, w5, he5, .inr y, hy, rfl, hs7.own, by rw [hgM]; exact hs7.kept, by rw [hgM]; exact hs7.wr⟩
        | goto t =>
          obtain ⟨y, hy, hjy, hsK⟩ := hq2
          obtain ⟨w5, he5, hs5⟩ := hfin .done (some (jmp y)) (some (.goto t)) rfl (by rw [hjy]) hsK
          have hs7 := Sit.grpR (L := []) hs5
          exact ⟨_, w5, he5, .inr y, hy, rfl, hs7.own, by rw [hgM]; exact hs7.kept, by rw [hgM]; exact hs7.wr⟩
        | panic c => exact hq2.elim
        | outgrown => exact hq2.elim
      | exit id => exact hq.elim
      | goto t => exact hq.elim
      | ret => exact hq.elim
      | panic c => exact hq.elim
      | outgrown => exact hq.elim
  have hfx := hseq l Mg Zg ψ w1 x0 hx0 hs3.grpR.own hyield
  have hargs : first ++ #[yv l] ++ cap = (first.toList ++ [yv l] ++ cap.toList).toArray := by apply Array.ext'; simp
  refine ⟨l, [markOf D], w1, { target := .fn (.func gf) cap, args := first ++ #[yv l] }, w1, gf, first ++ #[yv l] ++ cap, w1, hent, ?_, fun _ _ => trivial, ?_, fun h => by simp at h, ?_⟩
  · have hc : a.eval (.const (yv l)) = yv l := rfl
    simp only [resolve, hgv, Deferred.ofValue]
    simp [hc]
  · exact hfx.enters _ _
  · rw [hargs]
    refine (calls_in hfx.calls).mono (fun en w3 hr => ?_)
    cases en with
    | panicked _ => exact hr.elim
    | outgrown => exact hr.elim
    | returned v =>
      obtain ⟨z, hz, _, ho, hk, hnew⟩ := hr
      have hsF0 := hs3.grpR.step hk (fun b hb => hb) ho hnew
      have hpend : ∀ st pe, st ≠ .busy → w3.heap[l]? = some (.loop (rec st pe)) → (Instr.endLoop l).run P w3 = .ok pe (w3.putObj l (.loop (rec .exhausted pe))) := fun st pe hst h => by
        have h' := run_endLoop (P := P) h (by rw [hrec]; exact hst)
        rw [hrec] at h' ⊢
        exact h'
      cases z with
      | inl x =>
        have hsG := (Sit.ungrpR hsF0).perm (hperm x).symm
        have hrec3 : w3.heap[l]? = some (.loop (rec .ready none)) := hsG.own.ok _ (.head _)
        have hend := hpend _ _ (by simp) hrec3
        refine ⟨none, _, hend, ?_⟩
        have hsH := hsG.putObj (o' := .loop (rec .exhausted none)) rfl rfl
        have hsI := hsH.subl (List.sublist_cons_self _ _)
        exact (hdone D x hz).run _ _ ⟨hsI.sz, by show [markOf D] ++ a.defers = _; rw [hs.df]; rfl, hsI.env, hsI.own, hsI.kept, hsI.wr⟩
      | inr y =>
        have hsF := Sit.ungrpR (L := []) hsF0
        have hrec3 : w3.heap[l]? = some (.loop (rec .done (some (jmp y)))) := hsF.own.ok _ (.head _)
        have hend := hpend _ _ (by simp) hrec3
        refine ⟨some (jmp y), _, hend, ?_⟩
        have hsH := hsF.putObj (o' := .loop (rec .exhausted (some (jmp y)))) rfl rfl
        have hsI := hsH.subl (List.sublist_cons_self _ _)
        exact (hstop D y hz).run _ _ ⟨hsI.sz, by show [markOf D] ++ a.defers = _; rw [hs.df]; rfl, hsI.env, hsI.own, hsI.kept, hsI.wr⟩
end
end Go.X
