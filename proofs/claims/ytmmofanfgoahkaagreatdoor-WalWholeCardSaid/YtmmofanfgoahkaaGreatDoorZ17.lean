/- Package region: Flush, Seal. -/
import Derived.Test.YtmmofanfgoahkaaGreatDoorZ16
import Derived.Test.YtmmofanfgoahkaaGreatDoorIter
namespace Go.X
open Go Go.Proofs
abbrev rgX (br bl b : Nat) (lv vc : Value) (cut : Int) (ch : List Int) (g : Rg) (x : Ln) : Heap := rgB br bl g :: lnX bl b lv vc cut ch x
def Rg.did (g : Rg) (e : Int) : Rg := { g with broken := g.broken || decide (e ≠ 0) }
def Rg.flush (cut : Int) (ch : List Int) (g : Rg) (x : Ln) : Int × Rg × Ln := if g.broken = true then (17, g, x) else ((x.flush cut ch).1, g.did (x.flush cut ch).1, (x.flush cut ch).2)
theorem grflush_ok (br bl b : Nat) (lv vc : Value) (cut : Int) (ch : List Int) (g : Rg) (x : Ln) (m : Nat) (w : World) (hx : LIn m 900000 x) (hm : m ≤ 100000)
    (hl : ch.length ≤ 1000000) (hw : ∀ a ∈ ch, -9223372036854775808 ≤ a ∧ a ≤ 9223372036854775807) (ho : Owns w (rgX br bl b lv vc cut ch g x)) :
    Fx Tryz.prog 56 [ptr br] w (Ret w (rgX br bl b lv vc cut ch g x) (fun _ : Unit => iv (g.flush cut ch x).1) (fun _ => rgX br bl b lv vc cut ch (g.flush cut ch x).2.1 (g.flush cut ch x).2.2) (fun _ => True)) := by
  have ha := hx.acts
  refine Fx.of Tryz.func56 rfl (by kernel_rfl) Tryz.ntmps56 rfl ho ?_
  refine go (k := ?_)
  refine XL.q (.call rfl rfl fun _ w hs => may_at br bl g _ _ w (hs.own.ok _ (.head _))) rfl ?_
  cases hb : g.broken with
  | true =>
    have e : g.flush cut ch x = (17, g, x) := by unfold Rg.flush; rw [if_pos hb]
    rw [e]
    refine go (k := ?_)
    exact XE.ret1 () [0, 1, 2, 3] rfl rfl trivial rfl rfl rfl
  | false =>
    have e : g.flush cut ch x = ((x.flush cut ch).1, g.did (x.flush cut ch).1, (x.flush cut ch).2) := by unfold Rg.flush; rw [if_neg (by rw [hb]; decide)]
    rw [e]
    obtain ⟨r, hr⟩ : ∃ r, r = x.flush cut ch := ⟨_, rfl⟩
    refine go (k := ?_)
    refine XL.call [1, 2, 3] [0] rfl rfl rfl rfl rfl (fun _ w _ ho => lflush_ok bl b lv vc cut ch x w hx.ok (by rw [hx.len]; exact hm) (by omega) hl hw ho) fun _ _ => ?_
    rw [← hr]
    obtain ⟨e1, y1⟩ := r
    simp only
    refine XL.nm (M := lnX bl b lv vc cut ch y1 ++ [rgB br bl g]) ?_ rfl
    refine go (k := ?_)
    refine XL.call [3] [0, 1, 2] rfl rfl rfl rfl rfl (fun _ w _ ho => did_ok br bl g e1 w ho) fun _ _ => ?_
    refine go (k := ?_)
    exact XE.ret1 () [0, 1, 2, 3] rfl rfl trivial rfl rfl rfl
/-- the header of a generation -/
def hblk (gen : Nat) : List UInt8 := [] ++ be gen 4 ++ zbytes 56 ++ be gen 4
def Rg.sealG (cut : Int) (ch : List Int) (gen : Nat) (g : Rg) (x : Ln) : Int × Rg × Ln :=
  if gen = 0 then (2, g, x) else if g.broken = true then (17, g, x)
  else if (x.write cut ch g.at_ (hblk gen)).1 ≠ 0 then ((x.write cut ch g.at_ (hblk gen)).1, g.did (x.write cut ch g.at_ (hblk gen)).1, (x.write cut ch g.at_ (hblk gen)).2)
  else (g.did 0).flush cut ch (x.write cut ch g.at_ (hblk gen)).2
set_option maxHeartbeats 1000000 in
theorem rseal_ok (br bl b : Nat) (lv vc : Value) (cut : Int) (ch : List Int) (g : Rg) (x : Ln) (gen m : Nat) (w : World) (hx : LIn m 800000 x) (hm0 : 0 < m) (hm : m ≤ 100000) (hg : gen < 4294967296)
    (hl : ch.length ≤ 1000000) (hw : ∀ a ∈ ch, -9223372036854775808 ≤ a ∧ a ≤ 9223372036854775807) (ho : Owns w (rgX br bl b lv vc cut ch g x)) :
    Fx Tryz.prog 58 [ptr br, .int .u32 gen] w (Ret w (rgX br bl b lv vc cut ch g x) (fun _ : Unit => iv (g.sealG cut ch gen x).1) (fun _ => rgX br bl b lv vc cut ch (g.sealG cut ch gen x).2.1 (g.sealG cut ch gen x).2.2) (fun _ => True)) := by
  have ha := hx.acts
  refine Fx.of Tryz.func58 rfl (by kernel_rfl) Tryz.ntmps58 rfl ho ?_
  refine go (k := ?_)
  refine XL.q (.call rfl rfl fun _ w hs => may_at br bl g _ _ w (hs.own.ok _ (.head _))) rfl ?_
  by_cases h0 : gen = 0
  · have e : g.sealG cut ch gen x = (2, g, x) := by unfold Rg.sealG; rw [if_pos h0]
    rw [e]
    subst h0
    cases hb : g.broken with
    | true =>
      refine go (k := ?_)
      exact XE.ret1 () [0, 1, 2, 3] rfl rfl trivial rfl rfl rfl
    | false =>
      refine go (k := ?_)
      exact XE.ret1 () [0, 1, 2, 3] rfl rfl trivial rfl rfl rfl
  have h0' : ¬ (gen : Int) = 0 := by omega
  cases hb : g.broken with
  | true =>
    have e : g.sealG cut ch gen x = (17, g, x) := by unfold Rg.sealG; rw [if_neg h0, if_pos hb]
    rw [e]
    refine go (k := ?_)
    exact XE.ret1 () [0, 1, 2, 3] rfl rfl trivial rfl rfl rfl
  | false =>
    refine go (k := ?_)
    refine XL.alloc rfl rfl rfl fun bw => ?_
    refine XL.addNil 5 1 ?_
    refine go (k := ?_)
    refine XL.call [1, 0] [2, 3, 4, 5] rfl rfl rfl rfl rfl (fun _ w _ ho => wu32_ok bw (.slice none 0 0) [] gen w hg (by simp) ho) fun v1 _ => ?_
    refine XL.nm (M := wrG bw v1 ([] ++ be gen 4) ++ rgX br bl b lv vc cut ch g x) ?_ rfl
    refine go (k := ?_)
    refine XL.q (.call rfl rfl fun _ w _ => noughts_ok 56 w (by decide)) rfl ?_
    refine go (k := ?_)
    refine XL.call [0, 1] [2, 3, 4, 5] rfl rfl rfl rfl rfl (fun _ w _ ho => wraw_ok bw v1 ([] ++ be gen 4) (zbytes 56) w (by simp [be_len, zbytes_len]) ho) fun v2 _ => ?_
    refine XL.nm (M := wrG bw v2 ([] ++ be gen 4 ++ zbytes 56) ++ rgX br bl b lv vc cut ch g x) ?_ rfl
    refine go (k := ?_)
    refine XL.call [0, 1] [2, 3, 4, 5] rfl rfl rfl rfl rfl (fun _ w _ ho => wu32_ok bw v2 ([] ++ be gen 4 ++ zbytes 56) gen w hg (by simp [be_len, zbytes_len]) ho) fun v3 _ => ?_
    refine XL.pk (M := lnX bl b lv vc cut ch x ++ (wrG bw v3 (hblk gen) ++ [rgB br bl g])) [3, 4, 5, 0, 1, 2] (by decide) rfl ?_
    refine go1 (k := ?_)
    refine go1 (k := ?_)
    refine go1 (k := ?_)
    refine go1 (k := ?_)
    refine XC.drawM (C0 := lnX bl b lv vc cut ch x) (L := wrG bw v3 (hblk gen) ++ [rgB br bl g]) rfl ?_
    refine go (k := ?_)
    refine XD.q (.call (v := str (hblk gen)) rfl rfl fun _ w hs => wbytes_ok bw v3 _ w (hs.own.pick (is := [0, 1]) (by decide))) rfl ?_
    refine go (k := ?_)
    refine XD.mut (.call rfl rfl fun _ w _ ho => lwrite_ok bl b lv vc cut ch x g.at_ (hblk gen) w hx.ok (by rw [hx.len]; exact hm0) (by rw [hx.len]; exact hm) (by omega) hl hw ho) rfl rfl ?_
    refine XD.tail1 rfl (by decide +kernel) ?_
    rintro v H ⟨_, _, rfl, rfl⟩
    have hxi := hx.write cut ch g.at_ (hblk gen)
    have e : g.sealG cut ch gen x = if (x.write cut ch g.at_ (hblk gen)).1 ≠ 0 then ((x.write cut ch g.at_ (hblk gen)).1, g.did (x.write cut ch g.at_ (hblk gen)).1, (x.write cut ch g.at_ (hblk gen)).2) else (g.did 0).flush cut ch (x.write cut ch g.at_ (hblk gen)).2 := by
      unfold Rg.sealG; rw [if_neg h0, if_neg (by rw [hb]; decide)]
    rw [e]
    obtain ⟨r, hr⟩ : ∃ r, r = x.write cut ch g.at_ (hblk gen) := ⟨_, rfl⟩
    rw [← hr] at hxi ⊢
    obtain ⟨e1, y1⟩ := r
    simp only at hxi ⊢
    refine XL.pk (M := lnX bl b lv vc cut ch y1 ++ [rgB br bl g]) [0, 1, 2, 5] (by decide) rfl ?_
    refine XL.call [3] [0, 1, 2] rfl rfl rfl rfl rfl (fun _ w _ ho => did_ok br bl g e1 w ho) fun _ _ => ?_
    refine XL.nm (M := rgX br bl b lv vc cut ch (g.did e1) y1) ?_ rfl
    by_cases he : e1 = 0
    · subst he
      rw [if_neg (by simp)]
      refine go (k := ?_)
      refine XL.call [0, 1, 2, 3] [] rfl rfl rfl rfl rfl (fun _ w _ ho => grflush_ok br bl b lv vc cut ch (g.did 0) y1 m w ⟨hxi.ok, hxi.len, by have := hxi.acts; omega⟩ hm hl hw ho) fun _ _ => ?_
      refine go (k := ?_)
      exact XE.ret1 () [0, 1, 2, 3] rfl rfl trivial rfl rfl rfl
    · rw [if_pos he]
      refine go (k := ?_)
      exact XE.ret1 () [0, 1, 2, 3] rfl rfl trivial rfl rfl rfl
end Go.X
/- Ranges over a function whose memory the loop's body may change. -/
namespace Go.X
open Go
/-- An iterator over memory that is the loop's own (Lc, by the loop's state x): it hands out xs, whatever the rounds make of that memory, as long as φ holds. -/
def SeqA (P : Program) (gf : FuncId) (first cap : List Value) {α : Type} (Lc : α → Heap) (φ : Nat → α → Prop) (xs : List (List Value)) : Prop :=
  ∀ {β : Type} (l : Nat) (M : α → Ent) (Z : β → Ent) (ψ : β → Prop) (w : World) (x0 : α), φ 0 x0 → Owns w (Lc x0 ++ [M x0]) →
    (∀ (k : Nat) (vs : List Value) x w', xs[k]? = some vs → φ k x → Owns w' (Lc x ++ [M x]) → Kept (ids (Lc x0 ++ [M x0])) w w' → (∀ b ∈ ids (Lc x ++ [M x]), b ∈ ids (Lc x0 ++ [M x0]) ∨ w.heap.size ≤ b) →
      Yx P l vs w' (Ret w' (Lc x ++ [M x]) (Sum.elim (fun _ => .bool true) (fun _ => .bool false)) (Sum.elim (fun x => Lc x ++ [M x]) (fun y => [Z y])) (Sum.elim (φ (k + 1)) ψ))) →
    Fx P gf (first ++ [yv l] ++ cap) w (Ret w (Lc x0 ++ [M x0]) (fun _ => .tuple #[]) (Sum.elim (fun x => Lc x ++ [M x]) (fun y => [Z y])) (Sum.elim (φ xs.length) ψ))
section
variable {P : Program} {r : Option Nat} {w0 : World} {B : List Nat} {n : Nat} {Q : Post} {e : Env} {ds : List Deferred} {L : Heap} {S : Soft}
theorem XC.rangeFuncA {α β : Type} {g : Operand} {ps : Array Tmp} {assign body : Code} {gf : FuncId} {first cap : Array Value} {xs : List (List Value)} (Lc H : α → Heap) (φ : Nat → α → Prop) (Z : β → Heap) (ψ : β → Prop) (jmp : β → Code) (x0 : α) (is : List Nat)
    (E' : List Value → Env) (hg : ev e g = some (.func (.func gf) first cap)) (hseq : SeqA P gf first.toList cap.toList Lc φ xs) (hx0 : φ 0 x0) (hn : decide is.Nodup = true) (hp : pick L is = Lc x0 ++ H x0)
    (hps : ∀ (k : Nat) (vs : List Value), xs[k]? = some vs → vs.length = ps.size) (hpn : ps.toList.all (fun p => Nat.blt p n) = true)
    (hassign : ∀ l (k : Nat) (vs : List Value) w (L' : Heap), xs[k]? = some vs → XC P (some l) w (ids L') n assign (Exit.then (Mid w (ids L') n [] (fun _ : Unit => E' vs) (fun _ => L') (fun _ => True)) (fun _ _ _ => False)) (zipE ps.toList vs e) [] L')
    (hbody : ∀ l (k : Nat) (vs : List Value) x w, xs[k]? = some vs → φ k x → Kept B w0 w → XC P (some l) w (ids (Lc x ++ H x)) n body (BodyPost w (ids (Lc x ++ H x)) n (fun x => Lc x ++ H x) (φ (k + 1)) Z ψ jmp) (E' vs) [] (Lc x ++ H x))
    (hdone : ∀ D x, φ xs.length x → XE w0 B n .normal Q e (markOf D :: ds) (.obj D (.deferred (some [])) :: (Lc x ++ H x)))
    (hstop : ∀ D y, ψ y → XC P none w0 B n (jmp y) Q e (markOf D :: ds) (.obj D (.deferred (some [])) :: Z y)) :
    XC P none w0 B n (.rangeFunc g ps assign body) Q e ds L := by
  refine ⟨fun a w hs0 => wpIn_rangeFunc fun fn _ => ?_⟩
  have hs : Sit w0 B n e ds (Lc x0 ++ H x0) a w := hp ▸ hs0.pick (of_decide_eq_true hn)
  obtain ⟨rec, hrec⟩ : ∃ rec : LoopState → Option Code → Loop, rec = fun st pe => { state := st, pending := pe, fn, tmps := a.tmps, params := ps, assign, body, defers := w.heap.size } := ⟨_, rfl⟩
  have hent := run_enterLoop_outer (P := P) (w := w) fn a.tmps ps assign body
  -- the two new blocks
  have hs1 := hs.new (.deferred (some [])) trivial (.obj w.heap.size (.deferred (some []))) rfl (push_at w _)
  have hsz : ({ w with heap := w.heap.push (.deferred (some [])) } : World).heap.size = w.heap.size + 1 := by simp
  have hs2 := hs1.new (.loop (rec .ready none)) trivial (.obj (w.heap.size + 1) (.loop (rec .ready none))) (by simp [Ent.ids]) (by
    have := push_at ({ w with heap := w.heap.push (.deferred (some [])) } : World) (.loop (rec .ready none))
    rw [hsz] at this
    exact this)
  obtain ⟨w1, hw1⟩ : ∃ w1 : World, ({ ({ w with heap := w.heap.push (.deferred (some [])) } : World) with heap := ({ w with heap := w.heap.push (.deferred (some [])) } : World).heap.push (.loop (rec .ready none)) } : World) = w1 := ⟨_, rfl⟩
  rw [hw1] at hs2
  have hw1' : ((w.alloc (.deferred (some []))).alloc (.loop { state := .ready, pending := none, fn, tmps := a.tmps, params := ps, assign, body, defers := w.heap.size })) = w1 := by rw [← hw1, hrec]; rfl
  rw [hw1'] at hent
  obtain ⟨l, hl⟩ : ∃ l, w.heap.size + 1 = l := ⟨_, rfl⟩
  obtain ⟨D, hDe⟩ : ∃ D, w.heap.size = D := ⟨_, rfl⟩
  rw [hl] at hent hs2
  rw [hDe] at hent hs2
  have hgv : a.eval g = .func (.func gf) first cap := hs.eval hg
  let M : α → Heap := fun x => .obj l (.loop (rec .ready none)) :: (.obj D (.deferred (some [])) :: H x)
  let Z' : β → Heap := fun y => .obj l (.loop (rec .done (some (jmp y)))) :: (.obj D (.deferred (some [])) :: Z y)
  let Mg : α → Ent := fun x => grp (M x)
  let Zg : β → Ent := fun y => grp (Z' y)
  have hperm : ∀ x, List.Perm (.obj l (.loop (rec .ready none)) :: (.obj D (.deferred (some [])) :: (Lc x ++ H x))) (Lc x ++ M x) := fun x => by
    show List.Perm (([.obj l (.loop (rec .ready none)), .obj D (.deferred (some []))] ++ Lc x) ++ H x) (Lc x ++ ([.obj l (.loop (rec .ready none)), .obj D (.deferred (some []))] ++ H x))
    rw [← List.append_assoc]
    exact List.perm_append_comm.append_right _
  have hs3 := hs2.perm (hperm x0)
  -- the contract of yield
  have hyield : ∀ (k : Nat) (vs : List Value) x w', xs[k]? = some vs → φ k x → Owns w' (Lc x ++ [Mg x]) → Kept (ids (Lc x0 ++ [Mg x0])) w1 w' → (∀ b ∈ ids (Lc x ++ [Mg x]), b ∈ ids (Lc x0 ++ [Mg x0]) ∨ w1.heap.size ≤ b) →
      Yx P l vs w' (Ret w' (Lc x ++ [Mg x]) (Sum.elim (fun _ => .bool true) (fun _ => .bool false)) (Sum.elim (fun x => Lc x ++ [Mg x]) (fun y => [Zg y])) (Sum.elim (φ (k + 1)) ψ)) := by
    intro k vs x w' hvs hx hown hkept hfr
    replace hown : Owns w' (Lc x ++ M x) := hown.ungrpR
    replace hkept : Kept (ids (Lc x0 ++ M x0)) w1 w' := by rw [← ids_grpR]; exact hkept
    replace hfr : ∀ b ∈ ids (Lc x ++ M x), b ∈ ids (Lc x0 ++ M x0) ∨ w1.heap.size ≤ b := by rw [← ids_grpR (Lc x) (M x), ← ids_grpR (Lc x0) (M x0)]; exact hfr
    have hgM : ids (Lc x ++ [Mg x]) = ids (Lc x ++ M x) := ids_grpR _ _
    have hrecw : w'.heap[l]? = some (.loop (rec .ready none)) := hown.ok _ (List.mem_append_right _ (.head _))
    have hlen := hps k vs hvs
    have hro : rec .ready none = { state := .ready, pending := none, fn, tmps := a.tmps, params := ps, assign, body, defers := w.heap.size } := by rw [hrec]
    refine ⟨fn, (ps.zip vs.toArray).foldl (fun t (p, v) => t.setIfInBounds p v) a.tmps, assign, body, ?_, ?_⟩
    · have := run_yield (P := P) hrecw (args := vs.toArray) (by rw [hro]; simpa using hlen)
      rw [hro] at this
      exact this
    · -- the round
      refine roundIn_of_wpIn trivial ?_
      rw [inRound_FW]
      have hownP := hown
      have hs' : Sit w' (ids (Lc x ++ M x)) n e [] (Lc x ++ M x) { tmps := a.tmps, defers := [] } w' := ⟨hs.sz, rfl, hs.env, hown, .refl _ _, fun b hb => .inl hb⟩
      have hs'' := Sit.zip (ps := ps.toList) (vs := vs) hpn (by simpa using hlen.symm) hs'
      have hz : ((ps.zip vs.toArray).foldl (fun t (p, v) => t.setIfInBounds p v) a.tmps) = ((ps.toList.zip vs).foldl (fun t (p, v) => t.setIfInBounds p v) a.tmps) := by
        rw [← Array.foldl_toList]; simp
      rw [hz]
      refine wpIn_mono ((hassign l k vs w' (Lc x ++ M x) hvs).run _ _ hs'') (fun ex a1 w2 hq => ?_)
      cases ex with
      | normal =>
        obtain ⟨_, _, hsA⟩ := hq
        have hsB := hsA.perm (hperm x).symm
        have hrec2 : w2.heap[l]? = some (.loop (rec .ready none)) := hsB.own.ok _ (.head _)
        have hbeg := run_beginRound (P := P) hrec2 (by rw [hro])
        have hbusy : ({ rec .ready none with state := .busy } : Loop) = rec .busy none := by rw [hrec]
        rw [hbusy] at hbeg
        refine ⟨_, hbeg, ?_⟩
        have hsC := hsB.putObj (o' := .loop (rec .busy none)) rfl rfl
        obtain ⟨w3, hw3⟩ : ∃ w3, w2.putObj l (.loop (rec .busy none)) = w3 := ⟨_, rfl⟩
        rw [hw3] at hsC ⊢
        have hids : ids (.obj l (.loop (rec .busy none)) :: (.obj D (.deferred (some [])) :: (Lc x ++ H x))) = l :: D :: ids (Lc x ++ H x) := by simp [X.ids, Ent.ids]
        have hnd := hsC.own.nd
        rw [hids] at hnd
        obtain ⟨hnl, hnd2⟩ := List.nodup_cons.1 hnd
        obtain ⟨hnD, _⟩ := List.nodup_cons.1 hnd2
        have hownC : Owns w3 (Lc x ++ H x) := ⟨fun y hy => hsC.own.ok y (.tail _ (.tail _ hy)), (List.nodup_cons.1 hnd2).2⟩
        -- as seen from the activation
        have hwr : ∀ b ∈ ids (Lc x ++ M x), b ∈ B ∨ w0.heap.size ≤ b := fun b hb => (hfr b hb).elim (hs3.wr b) (fun h => .inr (Nat.le_trans hs3.kept.size h))
        have hkB : Kept B w0 w3 := (hs3.kept.trans hkept hs3.wr).trans hsC.kept hwr
        have hsD : Sit w3 (ids (Lc x ++ H x)) n (E' vs) [] (Lc x ++ H x) a1 w3 := ⟨hsC.sz, hsC.df, hsC.env, hownC, .refl _ _, fun b hb => .inl hb⟩
        refine wpIn_mono ((hbody l k vs x w3 hvs hx hkB).run _ _ hsD) (fun ex2 a2 w4 hq2 => ?_)
        have hfin : ∀ {K : Heap} (st : LoopState) (pe : Option Code) (jump : Option Code), (if jump.isNone = true then LoopState.ready else .done) = st → jump = pe → Sit w3 (ids (Lc x ++ H x)) n [] [] K a2 w4 →
            ∃ w5, (Instr.endRound l jump).run P w4 = .ok (.bool jump.isNone) w5 ∧ Sit w' (ids (Lc x ++ M x)) n [] [] (.obj l (.loop (rec st pe)) :: (.obj D (.deferred (some [])) :: K)) a2 w5 := by
          intro K st pe jump hst hpe hsK
          have hsE := Sit.frame (F := [.obj l (.loop (rec .busy none)), .obj D (.deferred (some []))]) hsC hsK
          have hrec4 : w4.heap[l]? = some (.loop (rec .busy none)) := hsE.own.ok _ (.head _)
          have hend := run_endRound (P := P) jump hrec4
          refine ⟨_, hend, ?_⟩
          have hnew : ({ rec .busy none with state := if jump.isNone = true then LoopState.ready else .done, pending := jump } : Loop) = rec st pe := by rw [hrec, hst, hpe]
          rw [hnew]
          exact hsE.putObj rfl rfl
        cases ex2 with
        | normal =>
          obtain ⟨x', hx', hsK⟩ := hq2
          obtain ⟨w5, he5, hs5⟩ := hfin .ready none none rfl rfl hsK
          have hs6 := hs5.perm (hperm x')
          have hs7 := hs6.grpR
          exact ⟨_, w5, he5, .inl x', hx', rfl, hs7.own, by rw [hgM]; exact hs7.kept, by rw [hgM]; exact hs7.wr⟩
        | ret =>
          obtain ⟨y, hy, hjy, hsK⟩ := hq2
          obtain ⟨w5, he5, hs5⟩ := hfin .done (some (jmp y)) (some .ret) rfl (by rw [hjy]) hsK
          have hs7 := Sit.grpR (L := []) hs5
          exact ⟨_, w5, he5, .inr y, hy, rfl, hs7.own, by rw [hgM]; exact hs7.kept, by rw [hgM]; exact hs7.wr⟩
        | exit id =>
          obtain ⟨y, hy, hjy, hsK⟩ := hq2
          obtain ⟨w5, he5, hs5⟩ := hfin .done (some (jmp y)) (some (.exit id)) rfl (by rw [hjy]) hsK
          have hs7 := Sit.grpR (L := []) hs5
          exact ⟨_, w5, he5, .inr y, hy, rfl, hs7.own, by rw [hgM]; exact hs7.kept, by rw [hgM]; exact hs7.wr⟩
        | goto t =>
          obtain ⟨y, hy, hjy, hsK⟩ := hq2
          obtain ⟨w5, he5, hs5⟩ := hfin .done (some (jmp y)) (some (.goto t)) rfl (by rw [hjy]) hsK
          have hs7 := Sit.grpR (L := []) hs5
          exact ⟨_, w5, he5, .inr y, hy, rfl, hs7.own, by rw [hgM]; exact hs7.kept, by rw [hgM]; exact hs7.wr⟩
        | panic c => exact hq2.elim
        | outgrown => exact hq2.elim
      | exit id => exact hq.elim
      | goto t => exact hq.elim
      | ret => exact hq.elim
      | panic c => exact hq.elim
      | outgrown => exact hq.elim
  have hfx := hseq l Mg Zg ψ w1 x0 hx0 hs3.grpR.own hyield
  have hargs : first ++ #[yv l] ++ cap = (first.toList ++ [yv l] ++ cap.toList).toArray := by apply Array.ext'; simp
  refine ⟨l, [markOf D], w1, { target := .fn (.func gf) cap, args := first ++ #[yv l] }, w1, gf, first ++ #[yv l] ++ cap, w1, hent, ?_, fun _ _ => trivial, ?_, fun h => by simp at h, ?_⟩
  · have hc : a.eval (.const (yv l)) = yv l := rfl
    simp only [resolve, hgv, Deferred.ofValue]
    simp [hc]
  · exact hfx.enters _ _
  · rw [hargs]
    refine (calls_in hfx.calls).mono (fun en w3 hr => ?_)
    cases en with
    | panicked _ => exact hr.elim
    | outgrown => exact hr.elim
    | returned v =>
      obtain ⟨z, hz, _, ho, hk, hnew⟩ := hr
      have hsF0 := hs3.grpR.step hk (fun b hb => hb) ho hnew
      have hpend : ∀ st pe, st ≠ .busy → w3.heap[l]? = some (.loop (rec st pe)) → (Instr.endLoop l).run P w3 = .ok pe (w3.putObj l (.loop (rec .exhausted pe))) := fun st pe hst h => by
        have h' := run_endLoop (P := P) h (by rw [hrec]; exact hst)
        rw [hrec] at h' ⊢
        exact h'
      cases z with
      | inl x =>
        have hsG := (Sit.ungrpR hsF0).perm (hperm x).symm
        have hrec3 : w3.heap[l]? = some (.loop (rec .ready none)) := hsG.own.ok _ (.head _)
        have hend := hpend _ _ (by simp) hrec3
        refine ⟨none, _, hend, ?_⟩
        have hsH := hsG.putObj (o' := .loop (rec .exhausted none)) rfl rfl
        have hsI := hsH.subl (List.sublist_cons_self _ _)
        exact (hdone D x hz).run _ _ ⟨hsI.sz, by show [markOf D] ++ a.defers = _; rw [hs.df]; rfl, hsI.env, hsI.own, hsI.kept, hsI.wr⟩
      | inr y =>
        have hsF := Sit.ungrpR (L := []) hsF0
        have hrec3 : w3.heap[l]? = some (.loop (rec .done (some (jmp y)))) := hsF.own.ok _ (.head _)
        have hend := hpend _ _ (by simp) hrec3
        refine ⟨some (jmp y), _, hend, ?_⟩
        have hsH := hsF.putObj (o' := .loop (rec .exhausted (some (jmp y)))) rfl rfl
        have hsI := hsH.subl (List.sublist_cons_self _ _)
        exact (hstop D y hz).run _ _ ⟨hsI.sz, by show [markOf D] ++ a.defers = _; rw [hs.df]; rfl, hsI.env, hsI.own, hsI.kept, hsI.wr⟩
end
end Go.X
/- Package region: Append. -/
namespace Go.X
open Go Go.Proofs
def apl (g : Rg) (s : List UInt8) : List (Int × List UInt8) := (List.range (nd s.length)).map fun k : Nat => ((g.at_ : Int) + ((g.used + 1 + k : Nat) : Int), gblk (g.used + 1) s k)
def Rg.append (cut : Int) (ch : List Int) (s : List UInt8) (g : Rg) (x : Ln) : Int × Rg × Ln :=
  if g.broken = true then (17, g, x) else if g.n < nd s.length + 1 + g.used then (7, g, x)
  else if (wrs cut ch (apl g s) x).1 ≠ 0 then ((wrs cut ch (apl g s) x).1, g.did (wrs cut ch (apl g s) x).1, (wrs cut ch (apl g s) x).2)
  else (0, { g with used := g.used + nd s.length }, (wrs cut ch (apl g s) x).2)
set_option maxHeartbeats 1000000 in
theorem rappend_ok (br bl b : Nat) (lv vc : Value) (cut : Int) (ch : List Int) (g : Rg) (x : Ln) (s : List UInt8) (m : Nat) (w : World) (hx : LIn m 700000 x) (hm0 : 0 < m) (hm : m ≤ 100000) (hs : s.length ≤ 100000) (hg : g.n ≤ 65536 ∧ g.used < g.n ∧ g.at_ ≤ 100000)
    (hl : ch.length ≤ 1000000) (hw : ∀ a ∈ ch, -9223372036854775808 ≤ a ∧ a ≤ 9223372036854775807) (ho : Owns w (rgX br bl b lv vc cut ch g x)) :
    Fx Tryz.prog 38 [ptr br, str s] w (Ret w (rgX br bl b lv vc cut ch g x) (fun _ : Unit => iv (g.append cut ch s x).1) (fun _ => rgX br bl b lv vc cut ch (g.append cut ch s x).2.1 (g.append cut ch s x).2.2) (fun _ => True)) := by
  have ha := hx.acts
  refine Fx.of Tryz.func38 rfl (by kernel_rfl) Tryz.ntmps38 rfl ho ?_
  refine go (k := ?_)
  refine XL.box (zs := [ptr br]) rfl rfl rfl fun b2 => ?_
  refine go (k := ?_)
  refine XL.alloc rfl rfl rfl fun b4 => ?_
  refine go (k := ?_)
  refine XL.q (.call rfl rfl fun _ w hs => may_at br bl g _ _ w (hs.own.ok _ (.tail _ (.tail _ (.head _))))) rfl ?_
  cases hb : g.broken with
  | true =>
    have e : g.append cut ch s x = (17, g, x) := by unfold Rg.append; rw [if_pos hb]
    rw [e]
    refine go (k := ?_)
    exact XE.retC1 () [2, 3, 4, 5] rfl rfl rfl rfl (.head _) rfl trivial rfl rfl rfl
  | false =>
    refine go (k := ?_)
    refine XD.q (.call rfl rfl fun _ w _ => needs_ok s.length w (by omega)) rfl ?_
    refine go (k := ?_)
    refine XL.q (.call rfl rfl fun _ w hs => left_at br bl g _ _ w ⟨by omega, by omega⟩ (hs.own.ok _ (.tail _ (.tail _ (.head _))))) rfl ?_
    by_cases hfull : g.n < nd s.length + 1 + g.used
    · have e : g.append cut ch s x = (7, g, x) := by unfold Rg.append; rw [if_neg (by rw [hb]; decide), if_pos hfull]
      rw [e]
      have hf' : (g.n : Int) - 1 - (g.used : Int) < (nd s.length : Int) := by omega
      refine go (k := ?_)
      exact XE.retC1 () [2, 3, 4, 5] rfl rfl rfl rfl (.head _) rfl trivial rfl rfl rfl
    · have hf' : ¬ (g.n : Int) - 1 - (g.used : Int) < (nd s.length : Int) := by omega
      refine go (k := ?_)
      rw [show (g.used : Int) + 1 = ((g.used + 1 : Nat) : Int) by omega]
      refine XL.call [] [0, 1, 2, 3, 4, 5] rfl rfl rfl rfl rfl (fun _ w _ _ => gblocks_ok ((g.used + 1 : Nat) : Int) s w) fun y _ => ?_
      obtain ⟨bf, bs⟩ := y
      refine XL.nm ?_
      refine go (k := ?_)
      refine XC.rangeFunc (α := Ln) (β := Int × Ln) (Lc := [.blk bf [iv ((g.used + 1 : Nat) : Int)] 3, .blk bs [str s] 9]) (xs := gitems (g.used + 1) s)
        (fun y => [.blk b4 [iv 0] 38, .blk b2 [ptr br] 37, rgB br bl g] ++ lnX bl b lv vc cut ch y) (fun k y => wrs cut ch ((apl g s).take k) x = (0, y))
        (fun y => [.blk b4 [iv y.1] 38, .blk b2 [ptr br] 37, rgB br bl (g.did y.1)] ++ lnX bl b lv vc cut ch y.2) (fun y => y.1 ≠ 0 ∧ wrs cut ch (apl g s) x = y) (fun _ => .ret) x [0, 1, 2, 3, 4, 5, 6, 7]
        (fun vs => zipE [6, 7] vs [(1, str s), (2, .pointer (some ⟨b2, 0, none⟩)), (4, .pointer (some ⟨b4, 0, none⟩))]) rfl (blocks_seq bf bs (g.used + 1) s (by omega) (by omega)) rfl rfl rfl ?_ rfl ?_ ?_ ?_ ?_
      · intro k vs hvs
        unfold gitems at hvs
        rw [List.getElem?_map] at hvs
        obtain ⟨p, _, rfl⟩ := Option.map_eq_some_iff.1 hvs
        rfl
      · intro l k vs w L' hvs
        unfold gitems at hvs
        rw [List.getElem?_map] at hvs
        obtain ⟨p, _, rfl⟩ := Option.map_eq_some_iff.1 hvs
        refine go (k := ?_)
        exact XE.midI () trivial ⟨rfl, rfl, rfl, rfl, rfl, trivial⟩ rfl
      · intro l k vs y w hvs hy _
        have hlk : k < nd s.length := by
          have := (List.getElem?_eq_some_iff.1 hvs).1
          unfold gitems at this; rwa [List.length_map, List.length_range] at this
        have hvs' : vs = [iv ((g.used + 1 + k : Nat) : Int), str (gblk (g.used + 1) s k)] := by
          unfold gitems at hvs; rw [List.getElem?_map, List.getElem?_range hlk] at hvs; exact (Option.some.inj hvs).symm
        subst hvs'
        refine XC.pk (M := lnX bl b lv vc cut ch y ++ [.blk bf [iv ((g.used + 1 : Nat) : Int)] 3, .blk bs [str s] 9, .blk b4 [iv 0] 38, .blk b2 [ptr br] 37, rgB br bl g]) [5, 6, 7, 0, 1, 2, 3, 4] (by decide) rfl ?_
        refine go1 (k := ?_)
        refine go1 (k := ?_)
        have hyi : LIn m (700000 + k) y := by
          have := LIn.wrs (cut := cut) (ch := ch) ((apl g s).take k) hx
          rw [hy, List.length_take, show (apl g s).length = nd s.length by unfold apl; simp, Nat.min_eq_left (Nat.le_of_lt hlk)] at this
          exact this
        have hya := hyi.acts
        have hndl := nd_le s.length
        have hat : (apl g s)[k]? = some ((g.at_ : Int) + ((g.used + 1 + k : Nat) : Int), gblk (g.used + 1) s k) := by unfold apl; rw [List.getElem?_map, List.getElem?_range hlk]; rfl
        have hsn : wrs cut ch ((apl g s).take (k + 1)) x = y.write cut ch ((g.at_ : Int) + ((g.used + 1 + k : Nat) : Int)) (gblk (g.used + 1) s k) := by
          rw [take_snoc hat, wrs_snoc _ _ _ (by rw [hy]), hy]
        refine XC.drawM (C0 := lnX bl b lv vc cut ch y) rfl ?_
        refine go (k := ?_)
        refine XD.mut (.call rfl rfl fun _ w _ ho => lwrite_ok bl b lv vc cut ch y ((g.at_ : Int) + ((g.used + 1 + k : Nat) : Int)) (gblk (g.used + 1) s k) w hyi.ok (by rw [hyi.len]; exact hm0) (by rw [hyi.len]; exact hm) (by omega) hl hw ho) rfl rfl ?_
        refine XD.tail1 rfl (by decide +kernel) ?_
        rintro v H ⟨_, _, rfl, rfl⟩
        obtain ⟨r, hr⟩ : ∃ r, r = y.write cut ch ((g.at_ : Int) + ((g.used + 1 + k : Nat) : Int)) (gblk (g.used + 1) s k) := ⟨_, rfl⟩
        rw [← hr] at hsn ⊢
        obtain ⟨e1, y1⟩ := r
        simp only
        refine XL.call [7] [0, 1, 2, 3, 4, 5, 6] rfl rfl rfl rfl rfl (fun _ w _ ho => did_ok br bl g e1 w ho) fun _ _ => ?_
        refine XL.nm (M := rgB br bl (g.did e1) :: (lnX bl b lv vc cut ch y1 ++ [.blk bf [iv ((g.used + 1 : Nat) : Int)] 3, .blk bs [str s] 9, .blk b4 [iv 0] 38, .blk b2 [ptr br] 37])) ?_ rfl
        by_cases he : e1 = 0
        · subst he
          have hgd : g.did 0 = g := by unfold Rg.did; simp
          rw [hgd]
          refine go (k := ?_)
          exact XE.round y1 [4, 5, 6, 7, 0, 1, 2, 3] hsn rfl rfl
        · refine go (k := ?_)
          have hall : wrs cut ch (apl g s) x = (e1, y1) := by
            rw [← List.take_append_drop (k + 1) (apl g s), wrs_stop _ _ _ (by rw [hsn]; exact he), hsn]
          exact XE.outRet (e1, y1) [6, 7, 0, 1, 2, 3] ⟨he, hall⟩ rfl rfl rfl
      · intro D y hy
        rw [show (gitems (g.used + 1) s).length = (apl g s).length by unfold gitems apl; simp, List.take_length] at hy
        have e : g.append cut ch s x = (0, { g with used := g.used + nd s.length }, y) := by unfold Rg.append; rw [if_neg (by rw [hb]; decide), if_neg hfull, hy, if_neg (by simp)]
        rw [e]
        refine go (k := ?_)
        refine XD.q (.call rfl rfl fun _ w _ => needs_ok s.length w (by omega)) rfl ?_
        have hnd : nd s.length ≤ 100001 := by have := nd_le s.length; omega
        refine go (k := ?_)
        rw [show (g.used : Int) + (nd s.length : Int) = ((g.used + nd s.length : Nat) : Int) by omega]
        refine XE.mark (.inl rfl) .here ?_
        exact XE.retC1 () [5, 6, 7, 8] rfl rfl rfl rfl (.tail _ (.tail _ (.tail _ (.head _)))) rfl trivial rfl rfl rfl
      · rintro D ⟨e1, y1⟩ ⟨he, hall⟩
        simp only at he
        have e : g.append cut ch s x = (e1, g.did e1, y1) := by unfold Rg.append; rw [if_neg (by rw [hb]; decide), if_neg hfull, hall, if_pos he]
        rw [e]
        refine go (k := ?_)
        refine XE.mark (.inl rfl) .here ?_
        exact XE.retC1 () [3, 4, 5, 6] rfl rfl rfl rfl (.tail _ (.head _)) rfl trivial rfl rfl rfl
end Go.X
/- Package region: Read (what it tells, of the bytes of the blocks). -/
namespace Go.X
open Go Go.Proofs
structure Rs where
  gen : Nat
  groups : List (List UInt8)
  group : List UInt8
  going : Bool
def rs0 : Rs := ⟨0, [], [], true⟩
/-- a block is read -/
def rstep (st : Rs) (p : Nat × List UInt8) : Rs :=
  if p.1 = 0 then { st with gen := hdr p.2 }
  else if (st.going && (pce p.1 p.2).2.2) = false then { st with going := false }
  else if (pce p.1 p.2).2.1 = true then { st with groups := st.groups ++ [st.group ++ (pce p.1 p.2).1], group := [] }
  else { st with group := st.group ++ (pce p.1 p.2).1 }
def rtell (l : List (Nat × List UInt8)) : Rs := l.foldl rstep rs0
theorem rtell_snoc (l : List (Nat × List UInt8)) (p : Nat × List UInt8) : rtell (l ++ [p]) = rstep (rtell l) p := by simp [rtell]
end Go.X
