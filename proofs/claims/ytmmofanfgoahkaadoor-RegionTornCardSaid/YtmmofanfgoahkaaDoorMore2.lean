/- Further entries. -/
import Derived.Test.YtmmofanfgoahkaaDoorMore
namespace Go.X
open Go
section
variable {P : Program} {r : Option Nat} {w0 : World} {B : List Nat} {n : Nat} {Q : Post} {e : Env} {ds : List Deferred} {L : Heap}
/-- nothing, as an entry -/
theorem Sit.addG0 {a : Act} {w : World} (h : Sit w0 B n e ds L a w) : Sit w0 B n e ds (grp [] :: L) a w :=
  ⟨h.sz, h.df, h.env, ⟨fun x hx => by
    rcases List.mem_cons.1 hx with rfl | hx
    · exact ⟨fun _ _ => Owns.nil _, fun b hb => by cases hb⟩
    · exact h.own.ok x hx, h.own.nd⟩, h.kept, h.wr⟩
theorem XC.addG0 {c : Code} (h : XC P r w0 B n c Q e ds (grp [] :: L)) : XC P r w0 B n c Q e ds L := ⟨fun a w hs => h.run a w hs.addG0⟩
theorem XL.addG0 {ops : Array Oper} {l : List Oper} (h : XL P r w0 B n ops l Q e ds (grp [] :: L)) : XL P r w0 B n ops l Q e ds L := ⟨fun a w hs => h.run a w hs.addG0⟩
theorem XE.addG0 {ex : Exit} (h : XE w0 B n ex Q e ds (grp [] :: L)) : XE w0 B n ex Q e ds L := ⟨fun a w hs => h.run a w hs.addG0⟩
theorem take_snoc {α : Type} {l : List α} {k : Nat} {x : α} (h : l[k]? = some x) : l.take (k + 1) = l.take k ++ [x] := by
  rw [List.take_succ_eq_append_getElem (List.getElem?_eq_some_iff.1 h).1, (List.getElem?_eq_some_iff.1 h).2]
/-- what a further step keeps, seen from the start -/
theorem Sit.keptTo {a : Act} {w w' : World} (h : Sit w0 B n e ds L a w) {C : List Nat} (k : Kept C w w') (hC : ∀ b ∈ C, b ∈ X.ids L) : Kept B w0 w' := h.kept.trans k fun b hb => h.wr b (hC b hb)
theorem ids_of_mem {x : Ent} (h : x ∈ L) : ∀ b ∈ x.ids, b ∈ X.ids L := fun _ hb => mem_ids.2 ⟨x, h, hb⟩
/-! ### The heap written out anew -/
theorem XL.nm {M : Heap} {ops : Array Oper} {l : List Oper} (h : XL P r w0 B n ops l Q e ds M) (hp : L = M := by
    (try simp only [X.pick, List.cons_append, List.nil_append, List.append_nil, List.getElem?_cons_zero, List.getElem?_cons_succ]); rfl) : XL P r w0 B n ops l Q e ds L := hp ▸ h
theorem XC.nm {M : Heap} {c : Code} (h : XC P r w0 B n c Q e ds M) (hp : L = M := by
    (try simp only [X.pick, List.cons_append, List.nil_append, List.append_nil, List.getElem?_cons_zero, List.getElem?_cons_succ]); rfl) : XC P r w0 B n c Q e ds L := hp ▸ h
theorem XE.nm {M : Heap} {ex : Exit} (h : XE w0 B n ex Q e ds M) (hp : L = M := by
    (try simp only [X.pick, List.cons_append, List.nil_append, List.append_nil, List.getElem?_cons_zero, List.getElem?_cons_succ]); rfl) : XE w0 B n ex Q e ds L := hp ▸ h
/-! ### Contracts, otherwise told -/
theorem Fx.keep {α : Type} {f : FuncId} {args : List Value} {w : World} {L0 : Heap} {ret : α → Value} {φ : α → Prop} (ho : Owns w L0) (h : Fx P f args w (Ret w [] ret (fun _ => []) φ)) : Fx P f args w (Ret w L0 ret (fun _ => L0) φ) :=
  h.mono fun e w' hr => by
    cases e with
    | returned v =>
      obtain ⟨x, hx, hv, _, hk, _⟩ := hr
      exact ⟨x, hx, hv, ho.of_kept hk (fun _ _ h => by cases h), hk.mono (fun _ h => by cases h), fun b hb => .inl hb⟩
    | panicked _ => exact hr
    | outgrown => exact hr
theorem Owns.shut {w : World} {G : Heap} (h : Owns w G) : Owns w [X.grp G] :=
  ⟨fun x hx => by
    rw [List.mem_singleton.1 hx]
    exact ⟨fun w' hs => ⟨fun y hy => Ent.ok_of_same (h.ok y hy) (fun b hb => hs b (mem_ids.2 ⟨y, hy, hb⟩)), h.nd⟩, h.live⟩, by
    simp only [X.ids, grp_ids, List.append_nil]; exact h.nd⟩
theorem ids_grp1 (G : Heap) : X.ids [grp G] = X.ids G := by simp [X.ids, grp_ids]
theorem Fx.grp {α : Type} {f : FuncId} {args : List Value} {w : World} {G : Heap} {G1 : α → Heap} {ret : α → Value} {φ : α → Prop} (h : Owns w G → Fx P f args w (Ret w G ret G1 φ)) (ho : Owns w [X.grp G]) : Fx P f args w (Ret w [X.grp G] ret (fun x => [X.grp (G1 x)]) φ) :=
  (h (ho.grp (.head _))).mono fun e w' hr => by
    cases e with
    | returned v =>
      obtain ⟨x, hx, hv, ho', hk, hn⟩ := hr
      refine ⟨x, hx, hv, ho'.shut, ?_, ?_⟩
      · rw [ids_grp1]; exact hk
      · rw [ids_grp1, ids_grp1]; exact hn
    | panicked _ => exact hr
    | outgrown => exact hr
/-- Two results, each in one cell. -/
theorem XE.retC2 [T : Tab P] {α : Type} {fn : Func} {w : World} {L0 : Heap} {ret : α → Value} {L1 : α → Heap} {φ : α → Prop} {t ty t' ty' : Nat} {d d' : TypeDesc} {b off b' off' : Nat} {tt tt' : TypeId} {cs cs' : List Value} {v v' : Value} (x : α) (is : List Nat) (hr : fn.results = #[.cell t ty, .cell t' ty'])
    (hv : get e t = some (.pointer (some ⟨b, off, none⟩))) (hv' : get e t' = some (.pointer (some ⟨b', off', none⟩)))
    (ht : T.und ty = some d) (hd : scal d = true) (ht' : T.und ty' = some d') (hd' : scal d' = true) (hm : Ent.blk b cs tt ∈ L) (hc : cs[off]? = some v) (hm' : Ent.blk b' cs' tt' ∈ L) (hc' : cs'[off']? = some v')
    (hx : φ x) (hret : Value.tuple #[v, v'] = ret x) (hn : decide is.Nodup = true) (hp : pick L is = L1 x) :
    XE w (ids L0) n .ret (bodyPostM (FW none) 0 P fn (Ret w L0 ret L1 φ)) e [] L := ⟨fun _ w' hs => by
  have hb : w'.heap[b]? = some (.cells cs.toArray tt (0, 0)) := hs.own.ok _ hm
  have hb' : w'.heap[b']? = some (.cells cs'.toArray tt' (0, 0)) := hs.own.ok _ hm'
  refine bodyEnd (v := .tuple #[v, v']) hs.df ?_ (.of hs x hx hret hn hp)
  have h1 := hs.env t _ hv
  have h2 := hs.env t' _ hv'
  simp only [results, hr]
  simp [h1, h2, asAddr, run_loadVar1 ht hd ((cell_of hb off).trans hc), run_loadVar1 ht' hd' ((cell_of hb' off').trans hc')]⟩
end
end Go.X
