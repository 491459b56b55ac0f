/- RegionPlays: helpers of the law over both regions. -/
import Derived.Test.YtmmofanfgoahkaaGreatDoorZ24
import Derived.Test.YtmmofanfgoahkaaGreatDoorZ9
namespace Go.X
open Go Go.Proofs Go.RowKit
structure LD (m k : Nat) (x : Ln) : Prop where
  li : LIn m k x
  inv : DInv x.ds
theorem act_inv {cut : Int} {ch : List Int} {x : Ln} {e : Int} {ds' : List Slot} (h : DInv x.ds) (h' : DInv ds') : DInv (x.act cut ch e ds').2.ds := by
  unfold Ln.act
  split
  · exact h
  · split
    · refine settled_inv _ ?_
      split
      · exact h'
      · exact h
    · exact h'
section
variable {m k : Nat} {x : Ln} {cut : Int} {ch : List Int}
theorem LD.mono {q : Nat} (h : LD m k x) (hq : k ≤ q) : LD m q x := ⟨⟨h.li.ok, h.li.len, Nat.le_trans h.li.acts hq⟩, h.inv⟩
theorem LD.write (h : LD m k x) (i : Int) (s : List UInt8) : LD m (k + 1) (x.write cut ch i s).2 := ⟨h.li.write cut ch i s, act_inv h.inv (dwr_inv h.inv i s)⟩
theorem LD.flush (h : LD m k x) : LD m (k + 1) (x.flush cut ch).2 := ⟨h.li.flush cut ch, act_inv h.inv (settled_inv _ h.inv)⟩
theorem LD.wrs : ∀ (l : List (Int × List UInt8)) {k : Nat} {x : Ln}, LD m k x → LD m (k + l.length) (X.wrs cut ch l x).2
  | [], k, x, h => h
  | p :: l, k, x, h => by
    have h1 := h.write (cut := cut) (ch := ch) p.1 p.2
    simp only [X.wrs]
    split
    · exact h1.mono (by simp only [List.length_cons]; omega)
    · have := LD.wrs l h1
      rw [List.length_cons, show k + (l.length + 1) = k + 1 + l.length by omega]
      exact this
theorem LD.fmt (h : LD m k x) (a : Int) (n : Nat) : LD m (k + n + 1) (X.fmt cut ch a n x).2 := by
  have h1 := LD.wrs (cut := cut) (ch := ch) (fmtl a n) h
  rw [fmtl_len] at h1
  unfold X.fmt
  split
  · exact h1.mono (by omega)
  · exact h1.flush
theorem LD.append (h : LD m k x) (g : Rg) (s : List UInt8) : LD m (k + nd s.length) (g.append cut ch s x).2.2 := by
  have h1 := LD.wrs (cut := cut) (ch := ch) (apl g s) h
  rw [apl_len] at h1
  unfold Rg.append
  split
  · exact h.mono (by omega)
  · split
    · exact h.mono (by omega)
    · split
      · exact h1
      · exact h1
theorem LD.rflush (h : LD m k x) (g : Rg) : LD m (k + 1) (g.flush cut ch x).2.2 := by
  unfold Rg.flush
  split
  · exact h.mono (by omega)
  · exact h.flush
theorem LD.sealG (h : LD m k x) (g : Rg) (v : Nat) : LD m (k + 2) (g.sealG cut ch v x).2.2 := by
  have h1 := h.write (cut := cut) (ch := ch) g.at_ (hblk v)
  unfold Rg.sealG
  split
  · exact h.mono (by omega)
  · split
    · exact h.mono (by omega)
    · split
      · exact h1.mono (by omega)
      · exact h1.rflush _
end
structure RgW (g : Rg) : Prop where
  n : g.n ≤ 256
  used : g.used < g.n
  at_ : g.at_ ≤ 256
theorem RgW.did {g : Rg} (h : RgW g) (e : Int) : RgW (g.did e) := ⟨h.n, h.used, h.at_⟩
theorem RgW.append {g : Rg} (h : RgW g) (cut : Int) (ch : List Int) (s : List UInt8) (x : Ln) : RgW (g.append cut ch s x).2.1 := by
  unfold Rg.append
  split
  · exact h
  · split
    · exact h
    · split
      · exact h.did _
      · exact ⟨h.n, by simp only; omega, h.at_⟩
theorem RgW.flush {g : Rg} (h : RgW g) (cut : Int) (ch : List Int) (x : Ln) : RgW (g.flush cut ch x).2.1 := by
  unfold Rg.flush
  split
  · exact h
  · exact h.did _
theorem RgW.sealG {g : Rg} (h : RgW g) (cut : Int) (ch : List Int) (v : Nat) (x : Ln) : RgW (g.sealG cut ch v x).2.1 := by
  unfold Rg.sealG
  split
  · exact h
  · split
    · exact h
    · split
      · exact h.did _
      · exact (h.did _).flush _ _ _
theorem r13same_ok (u v : Value) (gs : List (List UInt8)) (w : World) (hu : RowAt w u 1 gs.length (gstrs gs)) (hv : RowAt w v 1 gs.length (gstrs gs)) (hl : gs.length ≤ 1000000) : Fx Tryz.prog 48 [u, v] w (Pure w (.bool true)) := by
  have hr1 : ∀ L : Heap, Rd w (ids []) L u 1 gs.length (gstrs gs) := fun L => .old hu (fun _ _ _ => by simp [X.ids])
  have hr2 : ∀ L : Heap, Rd w (ids []) L v 1 gs.length (gstrs gs) := fun L => .old hv (fun _ _ _ => by simp [X.ids])
  refine Fx.of (L0 := []) Tryz.func48 rfl (by kernel_rfl) Tryz.ntmps48 rfl (Owns.nil w) ?_
  refine XC.rdv (hr1 _) fun a1 m1 h1 _ _ hao1 => ?_
  subst h1
  refine XC.rdv (hr2 _) fun a2 m2 h2 _ _ hao2 => ?_
  subst h2
  refine go (k := ?_)
  refine XC.loop (α := Nat) (fun i => [(0, .slice a1 gs.length m1), (1, .slice a2 gs.length m2), (5, iv i)]) (fun _ => []) (fun i => i ≤ gs.length) (fun i => gs.length - i) 0 [] (Nat.zero_le _) ⟨rfl, rfl, rfl, trivial⟩ rfl rfl ?_
  intro (i : Nat) (hi : i ≤ gs.length)
  by_cases hlt : i < gs.length
  · obtain ⟨s, hs⟩ : ∃ s, gs[i]? = some s := ⟨_, List.getElem?_eq_getElem hlt⟩
    obtain ⟨b1, o1, rfl⟩ : ∃ b off, a1 = some ⟨b, off, none⟩ := hao1.resolve_left (by omega)
    obtain ⟨b2, o2, rfl⟩ : ∃ b off, a2 = some ⟨b, off, none⟩ := hao2.resolve_left (by omega)
    have hv1 : (gstrs gs)[i * 1]? = some (str s) := by simp [gstrs, hs]
    refine go (k := ?_)
    refine XD.q (.ldRd (j := i * 1) rfl rfl rfl (hr1 _) (by omega) hv1) rfl ?_
    refine go (k := ?_)
    refine XD.q (.ldRd (j := i * 1) rfl rfl rfl (hr2 _) (by omega) hv1) rfl ?_
    refine go (k := ?_)
    exact XE.mid (i + 1) [] ⟨by omega, by omega⟩ ⟨rfl, rfl, rfl, trivial⟩ rfl rfl
  · obtain rfl : i = gs.length := by omega
    refine go (k := ?_)
    exact XE.ret1 () [] rfl rfl trivial rfl rfl rfl
abbrev twoG (bl b : Nat) (lv vc : Value) (cut : Int) (ch : List Int) (br bd : Nat) (fv rv cv : Value) (x : Ln) : Heap := lnX bl b lv vc cut ch x ++ rlG br bd fv rv cv cut x
theorem reads_ok (bl b : Nat) (lv vc : Value) (cut : Int) (ch : List Int) (br bd : Nat) (fv rv cv : Value) (x : Ln) (a n : Int) (k : Nat) (w : World) (h : LD 256 k x) (ho : Owns w (twoG bl b lv vc cut ch br bd fv rv cv x)) :
    Fx Tryz.prog 14 [ptr bl, ptr br, iv a, iv n] w (Pure w (.bool true)) := by
  have hown : ∀ w', Kept [] w w' → Owns w' (twoG bl b lv vc cut ch br bd fv rv cv x) := fun w' k => ho.of_kept k (fun _ _ h => by cases h)
  have o1 : ∀ w', Kept [] w w' → Owns w' (lnX bl b lv vc cut ch x) := fun w' k => (hown w' k).left
  have o2 : ∀ w', Kept [] w w' → Owns w' (rlG br bd fv rv cv cut x) := fun w' k => (hown w' k).right
  have hk := h.li.ok
  have hl := h.li.len
  have hi := h.inv
  refine Fx.of (L0 := []) Tryz.func14 rfl (by kernel_rfl) Tryz.ntmps14 rfl (Owns.nil w) ?_
  by_cases ht : thr x.ds.length a n = 0
  · have hb : 0 ≤ a ∧ 2 ≤ n := by
      unfold thr at ht; split at ht
      · cases ht
      · omega
    obtain ⟨an, rfl⟩ : ∃ q : Nat, a = q := ⟨a.toNat, by omega⟩
    obtain ⟨nn, rfl⟩ : ∃ q : Nat, n = q := ⟨n.toNat, by omega⟩
    cases hd : x.down with
    | true =>
      refine go (k := ?_)
      refine XL.q (.call rfl rfl fun _ w hs => gread_down bl b lv vc cut ch x an nn w hk (by omega) (by omega) ht hd (o1 w hs.kept)) rfl ?_
      refine go (k := ?_)
      refine XL.q (.call rfl rfl fun _ w hs => r13read_down br bd fv rv cv cut x an nn w hi (by omega) (by omega) ht hd (o2 w hs.kept)) rfl ?_
      refine go (k := ?_)
      refine XL.q (.call rfl rfl fun _ w hs => r13same_ok _ _ [] w (gsNil w) (gsNil w) (by decide)) rfl ?_
      refine go (k := ?_)
      exact XE.ret1 () [] rfl rfl trivial rfl rfl rfl
    | false =>
      have hgl := (rtell_bd (rblks x.ds an nn) (fun p hp => by have := rblks_bd hk an nn p hp; omega)).2
      rw [rblks_len] at hgl
      have hnn : (nn : Int) ≤ 65536 := by
        unfold thr at ht; split at ht
        · cases ht
        · omega
      have r1 : ∀ w', Kept [] w w' → Fx Tryz.prog 46 [ptr bl, iv an, iv nn] w' (Ret w' [] (fun v : Value => .tuple #[.int .u32 (rtell (rblks x.ds an nn)).gen, v, iv 0]) (fun v => [.sl v 9 1 (gstrs (rtell (rblks x.ds an nn)).groups)]) (fun _ => True)) := fun w' k => grread_ok bl b lv vc cut ch x an nn w' hk (by omega) (by omega) ht hd (o1 w' k)
      have r2 : ∀ w', Kept [] w w' → Fx Tryz.prog 47 [ptr br, iv an, iv nn] w' (Ret w' [] (fun v : Value => .tuple #[.int .u32 (rtell (rblks x.ds an nn)).gen, v, iv 0]) (fun v => [.sl v 9 1 (gstrs (rtell (rblks x.ds an nn)).groups)]) (fun _ => True)) := fun w' k => r13read_ok br bd fv rv cv cut x an nn w' hk hi (by omega) (by omega) ht hd (o2 w' k)
      obtain ⟨T, hT⟩ : ∃ T, T = rtell (rblks x.ds an nn) := ⟨_, rfl⟩
      rw [← hT] at r1 r2 hgl
      clear hT ht
      obtain ⟨gen, gs, gr, goi⟩ := T
      simp only at r1 r2 hgl
      refine go (k := ?_)
      refine XL.call [] [] rfl rfl rfl rfl rfl (fun _ w hs _ => r1 w hs.kept) fun v1 _ => ?_
      refine go (k := ?_)
      refine XL.call [] [0] rfl rfl rfl rfl rfl (fun _ w hs _ => r2 w hs.kept) fun v2 _ => ?_
      refine XL.nm (M := [.sl v2 9 1 (gstrs gs), .sl v1 9 1 (gstrs gs)]) ?_ rfl
      refine XL.slv (.head _) fun a2 q2 m2 hv2 hq2 _ => ?_
      subst hv2
      obtain rfl : q2 = gs.length := by simpa using hq2
      refine XL.slv (.tail _ (.head _)) fun a3 q3 m3 hv3 hq3 _ => ?_
      subst hv3
      obtain rfl : q3 = gs.length := by simpa using hq3
      refine go (k := ?_)
      refine XL.q (.call rfl rfl fun _ w hs => r13same_ok _ _ gs w ((hs.own.ok _ (.tail _ (.head _)) : SlOk w _ _ 1 _).rowAt (by decide) (by simp)) ((hs.own.ok _ (.head _) : SlOk w _ _ 1 _).rowAt (by decide) (by simp)) (by omega)) rfl ?_
      refine go (k := ?_)
      exact XE.ret1 () [] rfl rfl trivial rfl rfl rfl
  · have e2 : thr x.ds.length a n = 2 := by
      unfold thr at ht ⊢; split at ht
      · rename_i h; rw [if_pos h]
      · exact absurd rfl ht
    refine go (k := ?_)
    refine XL.q (.call (v := .tuple #[.int .u32 0, .slice none 0 0, iv 2]) rfl rfl fun _ w hs => by
      have := gread_bad bl b lv vc cut ch x a n w hk (by omega) ht (o1 w hs.kept)
      rw [e2] at this; exact this) rfl ?_
    refine go (k := ?_)
    refine XL.q (.call rfl rfl fun _ w hs => r13read_bad br bd fv rv cv cut x a n w (by omega) ht (o2 w hs.kept)) rfl ?_
    refine go (k := ?_)
    refine XL.q (.call rfl rfl fun _ w hs => r13same_ok _ _ [] w (gsNil w) (gsNil w) (by decide)) rfl ?_
    refine go (k := ?_)
    exact XE.ret1 () [] rfl rfl trivial rfl rfl rfl
end Go.X
/- Deferred calls of closures: the statement, the closure's contract, the end of a body with one. -/
namespace Go.X
open Go
/-- A function that is entered as a deferred call. -/
structure FxD (P : Program) (f : FuncId) (args : List Value) (w : World) (R : Ending → World → Prop) : Prop where
  enters : ∀ args w, (callFunc f args).run P w = .ok (.enter f args) w
  calls : ∀ u, CallsDIn (FW none) 0 P f args.toArray u w (fun e u' w' => u' = u ∧ R e w')
section
variable {P : Program} {r : Option Nat} {w0 : World} {B : List Nat} {n : Nat} {Q : Post} {e : Env} {ds : List Deferred} {L : Heap}
theorem FxD.of {f : FuncId} {fn : Func} {c : Code} {args : List Value} {w : World} {R : Ending → World → Prop} {L0 : Heap} (hf : P.funcs[f]? = some fn) (hb : fn.body = some c) (hname : (fn.name == "runtime.NumGoroutine") = false)
    (hn : fn.ntmps = n) (hl : Nat.ble args.length n = true) (ho : Owns w L0)
    (h : XC P none w (ids L0) n c (bodyPost P fn R) (argEnv 0 args) [] L0) : FxD P f args w R := by
  constructor
  · intro us w
    have hbn : fn.body.isNone = false := by rw [hb]; rfl
    have : (callFunc f us).run P w = .ok (.enter f us) w := by
      simp only [callFunc, program, Sem.run_bind, Sem.run, Result.andThen, hf, hname, hbn, Bool.false_eq_true, if_false]
      rfl
    exact this
  · intro u
    have hlt : args.length ≤ n := Nat.le_of_ble_eq_true hl
    refine callsDIn_of_wp hf hb trivial ?_ rfl
    refine h.run _ w ⟨?_, rfl, ?_, ho, .refl _ _, fun b hb => .inl hb⟩
    · simp [hn]; omega
    · intro i v hv
      obtain ⟨_, h2⟩ := get_argEnv hv
      have hlen : i - 0 < args.length := (List.getElem?_eq_some_iff.1 h2).1
      rw [Array.getElem?_append_left (by simpa using hlen)]
      simpa using h2
theorem XE.end0D {α : Type} {fn : Func} {w : World} {L0 : Heap} {ret : α → Value} {L1 : α → Heap} {φ : α → Prop} (x : α) (is : List Nat) (hr : fn.results = #[]) (hx : φ x) (hret : Value.tuple #[] = ret x) (hn : decide is.Nodup = true) (hp : pick L is = L1 x) :
    XE w (ids L0) n .normal (bodyPost P fn (Ret w L0 ret L1 φ)) e [] L := ⟨fun _ _ hs =>
  ⟨hs.df, _, results_none hr _ _ _, .of hs x hx hret hn hp⟩⟩
theorem XL.defer {ops : Array Oper} {rest : List Oper} {g : Operand} {args : Array Operand} {tys : Array TypeId} {ty : TypeId} {pos : String} {af : Array Edge} {fn : Fn} {first cap : Array Value} {vs : List Value}
    (hg : ev e g = some (.func fn first cap)) (ha : evs e args.toList = some vs)
    (h : XL P none w0 B n ops rest Q e ({ target := .fn fn cap, args := first ++ vs.toArray } :: ds) L) : XL P none w0 B n ops (⟨none, .defer ⟨.value g, args, tys⟩, ty, pos, af, none⟩ :: rest) Q e ds L := by
  refine ⟨fun a w hs => ?_⟩
  refine wpListIn_plain rfl (fun K hK => ⟨fun _ _ => trivial, ?_⟩)
  have e1 : args.map a.eval = vs.toArray := by rw [← Array.toList_inj]; simp only [Array.toList_map]; exact hs.evals ha
  have e2 : (Oper.semAt (FW none).round a.eval ⟨none, .defer ⟨.value g, args, tys⟩, ty, pos, af, none⟩).run P w = .ok (.defer { target := .fn fn cap, args := first ++ vs.toArray }) w := by
    show (execOp a.eval ⟨none, .defer ⟨.value g, args, tys⟩, ty, pos, af, none⟩).run P w = _
    simp only [execOp, resolve, e1, hs.eval hg, Deferred.ofValue, Sem.run_bind, Sem.run_pure, Result.andThen]
  rw [e2]
  refine hK _ _ (h.run _ _ ?_)
  exact ⟨hs.sz, by show _ :: a.defers = _; rw [hs.df], hs.env, hs.own, hs.kept, hs.wr⟩
/-- The end of a body with one deferred call of a closure. -/
theorem XE.dret {α : Type} {fn : Func} {f : FuncId} {cap args : Array Value} {R : Ending → World → Prop} {ret : α → Value} {L1 : α → Heap} {φ : α → Prop} {ex : Exit} (hex : ex = .ret ∨ ex = .normal)
    (hf : ∀ a w, Sit w0 B n e [{ target := .fn (.func f) cap, args := args }] L a w → FxD P f (args.toList ++ cap.toList) w (Ret w L ret L1 φ))
    (h : ∀ x, φ x → XE w0 B n .ret (bodyPostM (FW none) 0 P fn R) e [] (L1 x)) : XE w0 B n ex (bodyPostM (FW none) 0 P fn R) e [{ target := .fn (.func f) cap, args := args }] L := by
  refine ⟨fun a w hs => ?_⟩
  have hfn := hf a w hs
  have hgoal : LeavesInM (FW none) 0 P fn a.tmps R a.defers .returning w := by
    rw [hs.df]
    refine ⟨by simp, .inr ⟨fun h => by simp at h, .func f, cap, f, args ++ cap, rfl, hfn.enters _ w, fun _ _ => trivial, ?_⟩⟩
    have e1 : args ++ cap = (args.toList ++ cap.toList).toArray := by apply Array.ext'; simp
    rw [e1]
    refine (hfn.calls .returning).mono fun en u' w' hr => ?_
    obtain ⟨rfl, hr⟩ := hr
    cases en with
    | panicked _ => exact hr.elim
    | outgrown => exact hr.elim
    | returned v =>
      obtain ⟨x, hx, _, ho, hk, hnew⟩ := hr
      have hs2 : Sit w0 B n e [] (L1 x) { a with defers := [] } w' := ⟨hs.sz, rfl, hs.env, ho, hs.kept.trans hk (fun b hb => hs.wr b hb), fun b hb => by
        rcases hnew b hb with h1 | h1
        · exact hs.wr b h1
        · exact .inr (Nat.le_trans hs.kept.size h1)⟩
      exact (h x hx).run _ _ hs2
  rcases hex with rfl | rfl
  · exact hgoal
  · exact hgoal
end
end Go.X
/- Package wal: what a log holds; is, Gen, Room, first; steps in a row. -/
namespace Go.X
open Go Go.Proofs Go.RowKit
structure Wa where
  n : Nat
  at_ : Nat
  gen : Nat
  r : Option (Nat × Rg)
  broken : Bool
def wrV : Option (Nat × Rg) → Value
  | none => .pointer none
  | some (b, _) => ptr b
def wrH (bl : Nat) : Option (Nat × Rg) → Heap
  | none => []
  | some (b, g) => [rgB b bl g]
abbrev waCs (bl : Nat) (y : Wa) : List Value := [ptr bl, iv y.n, iv y.at_, .int .u32 y.gen, wrV y.r, .bool y.broken]
abbrev waB (bw bl : Nat) (y : Wa) : Ent := .blk bw (waCs bl y) 78
abbrev waX (bw bl b : Nat) (lv vc : Value) (cut : Int) (ch : List Int) (y : Wa) (x : Ln) : Heap := waB bw bl y :: grp (wrH bl y.r) :: lnX bl b lv vc cut ch x
theorem wis_at (bw bl : Nat) (y : Wa) (t : TypeId) (fz : Nat × Nat) (w : World) (hb : w.heap[bw]? = some (.cells (waCs bl y).toArray t fz)) : Fx Tryz.prog 66 [ptr bw] w (Pure w (.bool true)) := by
  have hB : bw ∉ ids ([] : Heap) := by simp [X.ids]
  have h0 : (waCs bl y)[0 + 0]? = some (ptr bl) := rfl
  refine Fx.of (L0 := []) Tryz.func66 rfl (by kernel_rfl) Tryz.ntmps66 rfl (Owns.nil w) ?_
  refine go (k := ?_)
  exact XE.ret1 () [] rfl rfl trivial rfl rfl rfl
theorem wgen_at (bw bl : Nat) (y : Wa) (t : TypeId) (fz : Nat × Nat) (w : World) (hb : w.heap[bw]? = some (.cells (waCs bl y).toArray t fz)) : Fx Tryz.prog 30 [ptr bw] w (Pure w (.int .u32 y.gen)) := by
  have hB : bw ∉ ids ([] : Heap) := by simp [X.ids]
  have h3 : (waCs bl y)[0 + 3]? = some (.int .u32 y.gen) := rfl
  refine Fx.of (L0 := []) Tryz.func30 rfl (by kernel_rfl) Tryz.ntmps30 rfl (Owns.nil w) ?_
  refine go (k := ?_)
  refine XL.q (.call rfl rfl fun _ w' hs => wis_at bw bl y t fz w' ((hs.kept.same bw (Array.getElem?_eq_some_iff.1 hb).1 (by simp [X.ids])).trans hb)) rfl ?_
  refine go (k := ?_)
  exact XE.ret1 () [] rfl rfl trivial rfl rfl rfl
theorem wroom_at (bw bl : Nat) (y : Wa) (t : TypeId) (fz : Nat × Nat) (w : World) (hn : 1 ≤ y.n ∧ y.n ≤ 1000000) (hb : w.heap[bw]? = some (.cells (waCs bl y).toArray t fz)) : Fx Tryz.prog 36 [ptr bw] w (Pure w (iv ((58 * (y.n - 1) : Nat) : Int))) := by
  have hB : bw ∉ ids ([] : Heap) := by simp [X.ids]
  have h1 : (waCs bl y)[0 + 1]? = some (iv y.n) := rfl
  refine Fx.of (L0 := []) Tryz.func36 rfl (by kernel_rfl) Tryz.ntmps36 rfl (Owns.nil w) ?_
  refine go (k := ?_)
  refine XL.q (.call rfl rfl fun _ w' hs => wis_at bw bl y t fz w' ((hs.kept.same bw (Array.getElem?_eq_some_iff.1 hb).1 (by simp [X.ids])).trans hb)) rfl ?_
  refine go (k := ?_)
  refine XE.ret1 () [] rfl rfl trivial ?_ rfl rfl
  congr 1; omega
/-- does it fit? -/
def Wa.fits (y : Wa) (k : Nat) : Bool := match y.r with
  | none => false
  | some (_, g) => decide ((nd k : Int) ≤ (g.n : Int) - 1 - g.used)
theorem wfits_ok (bw bl b : Nat) (lv vc : Value) (cut : Int) (ch : List Int) (y : Wa) (x : Ln) (k : Nat) (w : World) (hk : k ≤ 1000000) (hg : ∀ b g, y.r = some (b, g) → g.n ≤ 1000000 ∧ g.used ≤ 1000000) (ho : Owns w (waX bw bl b lv vc cut ch y x)) :
    Fx Tryz.prog 33 [ptr bw, iv k] w (Pure w (.bool (y.fits k))) := by
  have hown : ∀ w', Kept [] w w' → Owns w' (waX bw bl b lv vc cut ch y x) := fun w' k => ho.of_kept k (fun _ _ h => by cases h)
  have hb : w.heap[bw]? = some (.cells (waCs bl y).toArray _ (0, 0)) := ho.ok _ (.head _)
  have hB : bw ∉ ids ([] : Heap) := by simp [X.ids]
  have hnd : nd k ≤ k + 1 := nd_le k
  obtain ⟨n, at_, gen, r, broken⟩ := y
  simp only at hg
  refine Fx.of (L0 := []) Tryz.func33 rfl (by kernel_rfl) Tryz.ntmps33 rfl (Owns.nil w) ?_
  cases r with
  | none =>
    have h4 : (waCs bl ⟨n, at_, gen, none, broken⟩)[0 + 4]? = some (.pointer none) := rfl
    refine go (k := ?_)
    refine XD.q (.call rfl rfl fun _ w' hs => wis_at bw bl ⟨n, at_, gen, none, broken⟩ _ _ w' ((hown w' hs.kept).ok _ (.head _))) rfl ?_
    refine go (k := ?_)
    exact XE.ret1 () [] rfl rfl trivial rfl rfl rfl
  | some o =>
    obtain ⟨br, g⟩ := o
    obtain ⟨g1, g2⟩ := hg br g rfl
    have h4 : (waCs bl ⟨n, at_, gen, some (br, g), broken⟩)[0 + 4]? = some (ptr br) := rfl
    refine go (k := ?_)
    refine XD.q (.call rfl rfl fun _ w' hs => wis_at bw bl ⟨n, at_, gen, some (br, g), broken⟩ _ _ w' ((hown w' hs.kept).ok _ (.head _))) rfl ?_
    refine go (k := ?_)
    refine XD.qY rfl rfl rfl (.call rfl rfl fun _ w _ => needs_ok k w hk) rfl ?_
    refine go (k := ?_)
    refine XL.q (.call rfl rfl fun _ w' hs => left_at br bl g _ _ w' ⟨g1, g2⟩ (((hown w' hs.kept).grp (.tail _ (.head _))).ok _ (.head _))) rfl ?_
    refine go (k := ?_)
    exact XE.ret1 () [] rfl rfl trivial rfl rfl rfl
/-! ### first: steps in a row -/
def fr {α : Type} : List (α → Int × α) → α → Int × α
  | [], x => (0, x)
  | f :: l, x => if (f x).1 ≠ 0 then f x else fr l (f x).2
structure Step (α : Type) where
  fid : FuncId
  first : List Value
  cap : List Value
  run : α → Int × α
def Step.val {α : Type} (s : Step α) : Value := .func (.func s.fid) s.first.toArray s.cap.toArray
theorem first_ok {α : Type} (H : α → Heap) (φ : Nat → α → Prop) (fs : List (Step α)) (v : Value) (x0 : α) (w : World) (hl : fs.length ≤ 1000) (hx0 : φ 0 x0) (hrow : ∀ w', Kept (ids (H x0)) w w' → RowAt w' v 1 fs.length (fs.map Step.val))
    (hf : ∀ i s x w', fs[i]? = some s → φ i x → Owns w' (H x) → Fx Tryz.prog s.fid (s.first ++ s.cap) w' (Ret w' (H x) (fun _ : Unit => iv (s.run x).1) (fun _ => H (s.run x).2) (fun _ => True))) (hn : ∀ i s x, fs[i]? = some s → φ i x → (s.run x).1 = 0 → φ (i + 1) (s.run x).2)
    (hone : ∀ x, decide (List.range (H x).length).Nodup = true ∧ pick (H x) (List.range (H x).length) = H x) (ho : Owns w (H x0)) :
    Fx Tryz.prog 68 [v] w (Ret w (H x0) (fun _ : Unit => iv (fr (fs.map Step.run) x0).1) (fun _ => H (fr (fs.map Step.run) x0).2) (fun _ => True)) := by
  have hr : ∀ L : Heap, Rd w (ids (H x0)) L v 1 fs.length (fs.map Step.val) := fun L w' _ hk' => hrow w' hk'
  refine Fx.of Tryz.func68 rfl (by kernel_rfl) Tryz.ntmps68 rfl ho ?_
  refine XC.rdv (hr _) fun ao m hva _ _ hao => ?_
  subst hva
  refine go (k := ?_)
  refine XC.loop (α := Nat × α) (fun y => [(6, .slice ao fs.length m), (7, iv fs.length), (8, iv y.1)]) (fun y => H y.2) (fun y => y.1 ≤ fs.length ∧ φ y.1 y.2 ∧ fr ((fs.drop y.1).map Step.run) y.2 = fr (fs.map Step.run) x0) (fun y => fs.length - y.1) (0, x0) (List.range (H x0).length) ⟨Nat.zero_le _, hx0, by simp⟩ ⟨rfl, rfl, rfl, trivial⟩ (hone x0).1 (hone x0).2 ?_
  rintro ⟨k, x⟩ ⟨hk, hx, he⟩
  simp only at hk hx he ⊢
  by_cases hlt : k < fs.length
  · obtain ⟨s, hs⟩ : ∃ s, fs[k]? = some s := ⟨_, List.getElem?_eq_getElem hlt⟩
    obtain ⟨b1, o1, rfl⟩ : ∃ b off, ao = some ⟨b, off, none⟩ := hao.resolve_left (by omega)
    have hv1 : (fs.map Step.val)[k * 1]? = some s.val := by rw [Nat.mul_one, List.getElem?_map, hs]; rfl
    have hdr : fs.drop k = s :: fs.drop (k + 1) := by rw [List.drop_eq_getElem_cons hlt, (List.getElem?_eq_some_iff.1 hs).2]
    rw [hdr, List.map_cons, fr] at he
    have hcall := hf k s x
    have hnext := hn k s x hs hx
    obtain ⟨r, hrr⟩ : ∃ r, r = s.run x := ⟨_, rfl⟩
    rw [← hrr] at he hcall hnext
    clear hrr
    obtain ⟨e1, x1⟩ := r
    simp only at he hcall hnext
    refine go (k := ?_)
    refine XL.q (.ldRd (j := k * 1) rfl rfl rfl (hr _) (by omega) hv1) rfl ?_
    refine go (k := ?_)
    refine XL.call (fid := s.fid) (first := s.first.toArray) (cap := s.cap.toArray) (vs := []) (ret := fun _ : Unit => iv e1) (L0 := H x) (L1 := fun _ => H x1) (φ := fun _ => True) (List.range (H x).length) [] rfl rfl rfl (by rw [List.append_nil]; exact (hone x).1) (hone x).2 (fun _ w1 _ ho => by
      have := hcall w1 hs hx ho
      simpa using this) fun _ _ => ?_
    refine XL.nm (M := H x1) ?_ (by simp [X.pick])
    by_cases h0 : e1 = 0
    · subst h0
      rw [if_neg (by simp)] at he
      refine go (k := ?_)
      exact XE.mid (k + 1, x1) (List.range (H x1).length) ⟨⟨by simp only; omega, hnext rfl, he⟩, by simp only; omega⟩ ⟨rfl, rfl, rfl, trivial⟩ (hone x1).1 (hone x1).2
    · rw [if_pos h0] at he
      rw [← he]
      refine go (k := ?_)
      exact XE.ret1 () (List.range (H x1).length) rfl rfl trivial rfl (hone x1).1 (hone x1).2
  · obtain rfl : k = fs.length := by omega
    rw [List.drop_length] at he
    simp only [List.map_nil, fr] at he
    rw [← he]
    refine go (k := ?_)
    exact XE.ret1 () (List.range (H x).length) rfl rfl trivial rfl (hone x).1 (hone x).2
end Go.X
/- Package wal: anew. -/
namespace Go.X
open Go Go.Proofs Go.RowKit
/-- a region is begun anew: Format, then the dump, Flush, Seal, up to the first error -/
def anewR (cut : Int) (ch : List Int) (a n gen : Nat) (dump : List UInt8) (x : Ln) : Int × Option Rg × Ln :=
  if (fmt cut ch a n x).1 ≠ 0 then ((fmt cut ch a n x).1, none, (fmt cut ch a n x).2)
  else if (fr [fun p : Rg × Ln => p.1.append cut ch dump p.2, fun p => p.1.flush cut ch p.2, fun p => p.1.sealG cut ch gen p.2] (⟨a, n, 0, false⟩, (fmt cut ch a n x).2)).1 ≠ 0 then
    ((fr [fun p : Rg × Ln => p.1.append cut ch dump p.2, fun p => p.1.flush cut ch p.2, fun p => p.1.sealG cut ch gen p.2] (⟨a, n, 0, false⟩, (fmt cut ch a n x).2)).1, none, (fr [fun p : Rg × Ln => p.1.append cut ch dump p.2, fun p => p.1.flush cut ch p.2, fun p => p.1.sealG cut ch gen p.2] (⟨a, n, 0, false⟩, (fmt cut ch a n x).2)).2.2)
  else (0, some (fr [fun p : Rg × Ln => p.1.append cut ch dump p.2, fun p => p.1.flush cut ch p.2, fun p => p.1.sealG cut ch gen p.2] (⟨a, n, 0, false⟩, (fmt cut ch a n x).2)).2.1, (fr [fun p : Rg × Ln => p.1.append cut ch dump p.2, fun p => p.1.flush cut ch p.2, fun p => p.1.sealG cut ch gen p.2] (⟨a, n, 0, false⟩, (fmt cut ch a n x).2)).2.2)
abbrev anB (b9 b7 b6 br : Nat) (dump : List UInt8) (gen : Nat) : Heap := [.blk b9 [ptr br] 37, .blk b7 [str dump] 9, .blk b6 [.int .u32 gen] 44]
abbrev anX (b9 b7 b6 br bl b : Nat) (lv vc : Value) (cut : Int) (ch : List Int) (dump : List UInt8) (gen : Nat) (p : Rg × Ln) : Heap := anB b9 b7 b6 br dump gen ++ rgX br bl b lv vc cut ch p.1 p.2
/-- what is left of a line's acts, and what a region's record says -/
structure AnOk (m k : Nat) (p : Rg × Ln) : Prop where
  ld : LD m k p.2
  g : p.1.n ≤ 65536 ∧ p.1.used < p.1.n ∧ p.1.at_ ≤ 100000
section
variable (b9 b7 b6 br bl b : Nat) (lv vc : Value) (cut : Int) (ch : List Int) (dump : List UInt8) (gen : Nat) (p : Rg × Ln) (m k : Nat) (w : World)
theorem anew2_ok (h : AnOk m k p) (hk : k ≤ 700000) (hm0 : 0 < m) (hm : m ≤ 100000) (hd : dump.length ≤ 100000) (hl : ch.length ≤ 1000000) (hw : ∀ a ∈ ch, -9223372036854775808 ≤ a ∧ a ≤ 9223372036854775807) (ho : Owns w (anX b9 b7 b6 br bl b lv vc cut ch dump gen p)) :
    Fx Tryz.prog 101 [ptr b9, ptr b7] w (Ret w (anX b9 b7 b6 br bl b lv vc cut ch dump gen p) (fun _ : Unit => iv (p.1.append cut ch dump p.2).1) (fun _ => anX b9 b7 b6 br bl b lv vc cut ch dump gen (p.1.append cut ch dump p.2).2) (fun _ => True)) := by
  obtain ⟨g, x⟩ := p
  obtain ⟨hld, hg⟩ := h
  simp only at hld hg ⊢
  have hli : LIn m 700000 x := ⟨hld.li.ok, hld.li.len, by have := hld.li.acts; omega⟩
  refine Fx.of Tryz.func101 rfl (by kernel_rfl) Tryz.ntmps101 rfl ho ?_
  refine go (k := ?_)
  refine XL.call [3, 4, 5, 6] [0, 1, 2] rfl rfl rfl rfl rfl (fun _ w1 hs ho => rappend_ok br bl b lv vc cut ch g x dump m w1 hli hm0 hm hd hg hl hw ho) fun _ _ => ?_
  refine go (k := ?_)
  exact XE.ret1 () [4, 5, 6, 0, 1, 2, 3] rfl rfl trivial rfl rfl rfl
theorem anew3_ok (h : AnOk m k p) (hk : k ≤ 700000) (hm0 : 0 < m) (hm : m ≤ 100000) (hgen : gen < 4294967296) (hl : ch.length ≤ 1000000) (hw : ∀ a ∈ ch, -9223372036854775808 ≤ a ∧ a ≤ 9223372036854775807) (ho : Owns w (anX b9 b7 b6 br bl b lv vc cut ch dump gen p)) :
    Fx Tryz.prog 102 [ptr b9, ptr b6] w (Ret w (anX b9 b7 b6 br bl b lv vc cut ch dump gen p) (fun _ : Unit => iv (p.1.sealG cut ch gen p.2).1) (fun _ => anX b9 b7 b6 br bl b lv vc cut ch dump gen (p.1.sealG cut ch gen p.2).2) (fun _ => True)) := by
  obtain ⟨g, x⟩ := p
  obtain ⟨hld, hg⟩ := h
  simp only at hld hg ⊢
  have hli : LIn m 800000 x := ⟨hld.li.ok, hld.li.len, by have := hld.li.acts; omega⟩
  refine Fx.of Tryz.func102 rfl (by kernel_rfl) Tryz.ntmps102 rfl ho ?_
  refine go (k := ?_)
  refine XL.call [3, 4, 5, 6] [0, 1, 2] rfl rfl rfl rfl rfl (fun _ w1 hs ho => rseal_ok br bl b lv vc cut ch g x gen m w1 hli hm0 hm hgen hl hw ho) fun _ _ => ?_
  refine go (k := ?_)
  exact XE.ret1 () [4, 5, 6, 0, 1, 2, 3] rfl rfl trivial rfl rfl rfl
theorem anewF_ok (h : AnOk m k p) (hk : k ≤ 700000) (hm : m ≤ 100000) (hl : ch.length ≤ 1000000) (hw : ∀ a ∈ ch, -9223372036854775808 ≤ a ∧ a ≤ 9223372036854775807) (ho : Owns w (anX b9 b7 b6 br bl b lv vc cut ch dump gen p)) :
    Fx Tryz.prog 56 [ptr br] w (Ret w (anX b9 b7 b6 br bl b lv vc cut ch dump gen p) (fun _ : Unit => iv (p.1.flush cut ch p.2).1) (fun _ => anX b9 b7 b6 br bl b lv vc cut ch dump gen (p.1.flush cut ch p.2).2) (fun _ => True)) := by
  obtain ⟨g, x⟩ := p
  obtain ⟨hld, hg⟩ := h
  simp only at hld hg ⊢
  have hli : LIn m 900000 x := ⟨hld.li.ok, hld.li.len, by have := hld.li.acts; omega⟩
  have h1 := grflush_ok br bl b lv vc cut ch g x m w hli hm hl hw (ho.right (L := anB b9 b7 b6 br dump gen))
  refine h1.mono fun en w' hr => ?_
  cases en with
  | panicked _ => exact hr.elim
  | outgrown => exact hr.elim
  | returned v =>
    obtain ⟨u, hu, hv, ho', hk', hn⟩ := hr
    refine ⟨u, hu, hv, ?_, hk'.mono (fun q hq => by rw [ids_append]; exact List.mem_append_right _ hq), ?_⟩
    · refine Owns.append ((ho.left (M := rgX br bl b lv vc cut ch g x)).of_kept hk' (fun q hq => ho.apart q hq)) ho' (fun q hq hq' => ?_)
      rcases hn q hq' with h2 | h2
      · exact ho.apart q hq h2
      · have := (ho.left (M := rgX br bl b lv vc cut ch g x)).live q hq; omega
    · intro q hq
      rw [ids_append] at hq ⊢
      rcases List.mem_append.1 hq with hq | hq
      · exact .inl (List.mem_append_left _ hq)
      · exact (hn q hq).imp (List.mem_append_right _) id
end
theorem anew1_ok (b8 b4 bw bl : Nat) (e : Int) (y : Wa) (G : Ent) (w : World) (ho : Owns w [.blk b8 [iv e] 38, .blk b4 [ptr bw] 55, waB bw bl y, G]) :
    FxD Tryz.prog 100 [ptr b8, ptr b4] w (Ret w [.blk b8 [iv e] 38, .blk b4 [ptr bw] 55, waB bw bl y, G] (fun _ : Unit => .tuple #[]) (fun _ => [.blk b8 [iv e] 38, .blk b4 [ptr bw] 55, waB bw bl { y with broken := decide (e ≠ 0) }, G]) (fun _ => True)) := by
  obtain ⟨n, at_, gen, r, broken⟩ := y
  refine FxD.of Tryz.func100 rfl (by kernel_rfl) Tryz.ntmps100 rfl ho ?_
  have sp : SplL (waCs bl ⟨n, at_, gen, r, broken⟩) (0 + 5) [.bool (decide (e ≠ 0))] (waCs bl ⟨n, at_, gen, r, decide (e ≠ 0)⟩) := ⟨by simp, rfl⟩
  refine go (k := ?_)
  exact XE.end0D () [0, 1, 2, 3] rfl trivial rfl rfl rfl
end Go.X
