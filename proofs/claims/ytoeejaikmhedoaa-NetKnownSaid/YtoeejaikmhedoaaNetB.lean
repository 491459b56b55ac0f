/- Contracts of package net: New, at, Waits, Lost, put, Post, Take. -/
import Derived.Test.YtoeejaikmhedoaaNetA
namespace Go.X
open Go Go.Proofs
theorem XE.addNils {w0 : World} {B : List Nat} {n : Nat} {ex : Exit} {Q : Post} {e : Env} {ds : List Deferred} {L : Heap} (t : TypeId) (k : Nat) : ∀ m, XE w0 B n ex Q e ds (List.replicate m (.sl (.slice none 0 0) t k []) ++ L) → XE w0 B n ex Q e ds L
  | 0, h => h
  | m + 1, h => XE.addNils t k m (XE.addNil t k h)
theorem new_none (n : Int) (w : World) (h : n < 2 ∨ 8 < n) : Fx Try.prog 7 [iv n] w (Pure w (.pointer none)) := by
  refine Fx.of (L0 := []) Try.func7 rfl (by kernel_rfl) Try.ntmps7 rfl (Owns.nil w) ?_
  by_cases h1 : n < 2
  · refine go (k := ?_)
    exact XE.ret1 () [] rfl rfl trivial rfl rfl rfl
  · refine go (k := ?_)
    exact XE.ret1 () [] rfl rfl trivial rfl rfl rfl
abbrev ps0 : List Wy := List.replicate 64 (nil0, [])
theorem new_ok (n : Int) (w : World) (h1 : 2 ≤ n) (h2 : n ≤ 8) : Fx Try.prog 7 [iv n] w (Ret w [] (fun b : Nat => ptr b) (fun b => [netE b n 0 ps0]) (fun _ => True)) := by
  refine Fx.of (L0 := []) Try.func7 rfl (by kernel_rfl) Try.ntmps7 rfl (Owns.nil w) ?_
  refine go (k := ?_)
  refine XL.box (zs := netCs n 0 ps0) rfl rfl rfl fun b => ?_
  refine go (k := ?_)
  refine XE.addNils 9 1 64 ?_
  refine XE.pk (M := netG b n 0 ps0) (64 :: List.range 64) (by decide) rfl ?_
  refine XE.all ?_
  exact XE.ret1 b [0] rfl rfl trivial rfl rfl rfl
section
variable (b : Nat) (n : Int) (t : TypeId) (fz : Nat × Nat) (cs : List Value)
theorem replica_at (r : Int) (w : World) (hb : w.heap[b]? = some (.cells (iv n :: cs).toArray t fz)) : Fx Try.prog 26 [ptr b, iv r] w (Pure w (.bool (decide (0 ≤ r ∧ r < n)))) := by
  refine Fx.of (L0 := []) Try.func26 rfl (by kernel_rfl) Try.ntmps26 rfl (Owns.nil w) ?_
  have hB : b ∉ ids ([] : Heap) := by simp [X.ids]
  have h0 : (iv n :: cs)[0 + 0]? = some (iv n) := rfl
  by_cases h : 0 ≤ r
  · refine go (k := ?_)
    refine XE.ret1 () [] rfl rfl trivial ?_ rfl rfl
    simp [h]
  · refine go (k := ?_)
    refine XE.ret1 () [] rfl rfl trivial ?_ rfl rfl
    simp [h]; try omega
theorem at_nil (f g : Int) (w : World) : Fx Try.prog 24 [.pointer none, iv f, iv g] w (Pure w (.tuple #[.pointer none, iv 1])) := by
  refine Fx.of (L0 := []) Try.func24 rfl (by kernel_rfl) Try.ntmps24 rfl (Owns.nil w) ?_
  refine go (k := ?_)
  exact XE.ret2 () [] rfl rfl rfl trivial rfl rfl rfl
theorem at_zero (f g : Int) (w : World) (hn : n = 0) (hb : w.heap[b]? = some (.cells (iv n :: cs).toArray t fz)) : Fx Try.prog 24 [ptr b, iv f, iv g] w (Pure w (.tuple #[.pointer none, iv 1])) := by
  refine Fx.of (L0 := []) Try.func24 rfl (by kernel_rfl) Try.ntmps24 rfl (Owns.nil w) ?_
  have hB : b ∉ ids ([] : Heap) := by simp [X.ids]
  have h0 : (iv n :: cs)[0 + 0]? = some (iv n) := rfl
  refine go (k := ?_)
  exact XE.ret2 () [] rfl rfl rfl trivial rfl rfl rfl
theorem at_bad (f g : Int) (w : World) (hn : n ≠ 0) (h : ¬ okw n f g) (hb : w.heap[b]? = some (.cells (iv n :: cs).toArray t fz)) : Fx Try.prog 24 [ptr b, iv f, iv g] w (Pure w (.tuple #[.pointer none, iv 2])) := by
  refine Fx.of (L0 := []) Try.func24 rfl (by kernel_rfl) Try.ntmps24 rfl (Owns.nil w) ?_
  have hB : b ∉ ids ([] : Heap) := by simp [X.ids]
  have h0 : (iv n :: cs)[0 + 0]? = some (iv n) := rfl
  have hbk : ∀ w', Kept (ids []) w w' → w'.heap[b]? = some (.cells (iv n :: cs).toArray t fz) := fun w' hk => (hk.same b (Array.getElem?_eq_some_iff.1 hb).1 (by simp [X.ids])).trans hb
  by_cases h1 : 0 ≤ f ∧ f < n
  · by_cases h2 : 0 ≤ g ∧ g < n
    · have h3 : f = g := Decidable.not_not.1 fun e => h ⟨h1, h2, e⟩
      refine go (k := ?_)
      refine XL.q (.call rfl rfl fun _ w' hs => replica_at b n t fz cs f w' (hbk w' hs.kept)) rfl ?_
      rw [decide_eq_true h1]
      refine go (k := ?_)
      refine XL.q (.call rfl rfl fun _ w' hs => replica_at b n t fz cs g w' (hbk w' hs.kept)) rfl ?_
      rw [decide_eq_true h2]
      refine go (k := ?_)
      exact XE.ret2 () [] rfl rfl rfl trivial rfl rfl rfl
    · refine go (k := ?_)
      refine XL.q (.call rfl rfl fun _ w' hs => replica_at b n t fz cs f w' (hbk w' hs.kept)) rfl ?_
      rw [decide_eq_true h1]
      refine go (k := ?_)
      refine XL.q (.call rfl rfl fun _ w' hs => replica_at b n t fz cs g w' (hbk w' hs.kept)) rfl ?_
      rw [decide_eq_false h2]
      refine go (k := ?_)
      exact XE.ret2 () [] rfl rfl rfl trivial rfl rfl rfl
  · refine go (k := ?_)
    refine XL.q (.call rfl rfl fun _ w' hs => replica_at b n t fz cs f w' (hbk w' hs.kept)) rfl ?_
    rw [decide_eq_false h1]
    refine go (k := ?_)
    exact XE.ret2 () [] rfl rfl rfl trivial rfl rfl rfl
theorem at_ok (f g : Nat) (w : World) (hf : (f : Int) < n) (hg : (g : Int) < n) (hne : f ≠ g) (hn : n ≤ 8) (hb : w.heap[b]? = some (.cells (iv n :: cs).toArray t fz)) :
    Fx Try.prog 24 [ptr b, iv f, iv g] w (Pure w (.tuple #[.pointer (some ⟨b, 0 + 2 + f * 8 + g * 1, none⟩), iv 0])) := by
  refine Fx.of (L0 := []) Try.func24 rfl (by kernel_rfl) Try.ntmps24 rfl (Owns.nil w) ?_
  have hB : b ∉ ids ([] : Heap) := by simp [X.ids]
  have h0 : (iv n :: cs)[0 + 0]? = some (iv n) := rfl
  have hbk : ∀ w', Kept (ids []) w w' → w'.heap[b]? = some (.cells (iv n :: cs).toArray t fz) := fun w' hk => (hk.same b (Array.getElem?_eq_some_iff.1 hb).1 (by simp [X.ids])).trans hb
  refine go (k := ?_)
  refine XL.q (.call rfl rfl fun _ w' hs => replica_at b n t fz cs f w' (hbk w' hs.kept)) rfl ?_
  rw [decide_eq_true (show 0 ≤ (f : Int) ∧ (f : Int) < n by omega)]
  refine go (k := ?_)
  refine XL.q (.call rfl rfl fun _ w' hs => replica_at b n t fz cs g w' (hbk w' hs.kept)) rfl ?_
  rw [decide_eq_true (show 0 ≤ (g : Int) ∧ (g : Int) < n by omega)]
  refine go (k := ?_)
  exact XE.ret2 () [] rfl rfl rfl trivial rfl rfl rfl
theorem lost_at (lost : Nat) (w : World) (hb : w.heap[b]? = some (.cells (iv n :: iv lost :: cs).toArray t fz)) : Fx Try.prog 12 [ptr b] w (Pure w (iv lost)) := by
  refine Fx.of (L0 := []) Try.func12 rfl (by kernel_rfl) Try.ntmps12 rfl (Owns.nil w) ?_
  have hB : b ∉ ids ([] : Heap) := by simp [X.ids]
  have h0 : (iv n :: iv lost :: cs)[0 + 1]? = some (iv lost) := rfl
  refine go (k := ?_)
  exact XE.ret1 () [] rfl rfl trivial rfl rfl rfl
theorem waits_none (f g : Int) (w : World) (x : Value) (e : Int) (he : e ≠ 0) (h : ∀ w', Kept (ids []) w w' → Fx Try.prog 24 [x, iv f, iv g] w' (Pure w' (.tuple #[.pointer none, iv e]))) : Fx Try.prog 11 [x, iv f, iv g] w (Pure w (iv 0)) := by
  refine Fx.of (L0 := []) Try.func11 rfl (by kernel_rfl) Try.ntmps11 rfl (Owns.nil w) ?_
  refine go (k := ?_)
  refine XL.q (.call rfl rfl fun _ w' hs => h w' hs.kept) rfl ?_
  refine go (k := ?_)
  exact XE.ret1 () [] rfl rfl trivial rfl rfl rfl
end
theorem lset_self {α : Type} {l : List α} {i : Nat} {x : α} (h : l[i]? = some x) : l.set i x = l := by
  apply List.ext_getElem?
  intro j
  rw [List.getElem?_set]
  split
  · rename_i e; subst e; rw [if_pos (List.getElem?_eq_some_iff.1 h).1, h]
  · rfl
theorem XC.outP {P : Program} {r : Option Nat} {w0 : World} {B : List Nat} {n : Nat} {Q : Post} {e : Env} {ds : List Deferred} {α : Type} {f : α → Ent} {ps : List α} {j : Nat} {p : α} {x : Ent} {c : Code} (hp : ps[j]? = some p) (h : XC P r w0 B n c Q e ds (f p :: x :: [grp ((ps.eraseIdx j).map f)])) :
    XC P r w0 B n c Q e ds (x :: ps.map f) :=
  ⟨fun a w hs => h.run a w (Sit.grpR (L := [f p, x]) (hs.perm (((perm_out hp).cons x).trans (.swap _ _ _))))⟩
theorem net_at {n : Int} {lost f g : Nat} {ps : List Wy} {p : Wy} (hp : ps[f * 8 + g]? = some p) : (netCs n lost ps)[0 + 2 + f * 8 + g * 1]? = some p.1 := by
  rw [show 0 + 2 + f * 8 + g * 1 = (f * 8 + g) + 1 + 1 by omega, List.getElem?_cons_succ, List.getElem?_cons_succ, List.getElem?_map, hp]; rfl
theorem net_mem {ps : List Wy} {j : Nat} {p : Wy} (hp : ps[j]? = some p) (b : Nat) (n : Int) (lost : Nat) : wyf p ∈ netB b n lost ps :: ps.map wyf := .tail _ (List.mem_map.2 ⟨p, List.mem_of_getElem? hp, rfl⟩)
theorem net_set {n : Int} {lost f g : Nat} {ps : List Wy} {p : Wy} (hp : ps[f * 8 + g]? = some p) (q : Wy) : SplL (netCs n lost ps) (0 + 2 + f * 8 + g * 1) [q.1] (netCs n lost (ps.set (f * 8 + g) q)) := by
  have hlt : f * 8 + g < ps.length := (List.getElem?_eq_some_iff.1 hp).1
  have h1 := SplL.one (cs := netCs n lost ps) (k := (f * 8 + g) + 1 + 1) q.1 (by simp; omega)
  rw [show 0 + 2 + f * 8 + g * 1 = (f * 8 + g) + 1 + 1 by omega]
  have e : (netCs n lost ps).set ((f * 8 + g) + 1 + 1) q.1 = netCs n lost (ps.set (f * 8 + g) q) := by simp [List.map_set]
  rwa [e] at h1
theorem net_lost {n : Int} {lost : Nat} (ps : List Wy) (k : Nat) : SplL (netCs n lost ps) (0 + 1) [iv ((lost : Int) + (k : Int))] (netCs n (lost + k) ps) := ⟨by simp, by simp⟩
section
variable (b f g : Nat) (n : Int) (lost : Nat) (ps : List Wy) (v : Value) (xs : List Tx)
theorem waits_ok (w : World) (hf : (f : Int) < n) (hg : (g : Int) < n) (hne : f ≠ g) (hn : n ≤ 8) (hp : ps[f * 8 + g]? = some (v, xs)) (ho : Owns w (netG b n lost ps)) :
    Fx Try.prog 11 [ptr b, iv f, iv g] w (Pure w (iv xs.length)) := by
  have hr : RowAt w v 1 xs.length (strs xs) := (ho.ok _ (net_mem hp b n lost) : SlOk w v _ 1 _).rowAt (by decide) (by simp)
  obtain ⟨ao, m, rfl, _, _⟩ := hr
  have hb : w.heap[b]? = some (.cells (netCs n lost ps).toArray _ (0, 0)) := ho.ok _ (.head _)
  have hB : b ∉ ids ([] : Heap) := by simp [X.ids]
  have hat := net_at (n := n) (lost := lost) hp
  refine Fx.of (L0 := []) Try.func11 rfl (by kernel_rfl) Try.ntmps11 rfl (Owns.nil w) ?_
  refine go (k := ?_)
  refine XL.q (.call rfl rfl fun _ w' hs => at_ok b n _ _ _ f g w' hf hg hne hn ((hs.kept.same b (Array.getElem?_eq_some_iff.1 hb).1 (by simp [X.ids])).trans hb)) rfl ?_
  refine go (k := ?_)
  exact XE.ret1 () [] rfl rfl trivial rfl rfl rfl
set_option maxHeartbeats 1000000 in
theorem put_ok (k : Nat) (s : Tx) (w : World) (hk : k ≤ xs.length) (hl : xs.length ≤ 64) (hlo : lost ≤ 2000000000) (hp : ps[f * 8 + g]? = some (v, xs)) (ho : Owns w [netE b n lost ps]) :
    Fx Try.prog 28 [ptr b, .pointer (some ⟨b, 0 + 2 + f * 8 + g * 1, none⟩), iv k, str s] w (Ret w [netE b n lost ps] (fun _ : Value => .tuple #[]) (fun v' => [netE b n (wput (lost, xs) k s).1 (ps.set (f * 8 + g) (v', (wput (lost, xs) k s).2))]) (fun _ => True)) := by
  refine Fx.of Try.func28 rfl (by kernel_rfl) Try.ntmps28 rfl ho ?_
  refine XC.open1 ?_
  have hmem := net_mem hp b n lost
  have hlen : f * 8 + g < ps.length := (List.getElem?_eq_some_iff.1 hp).1
  refine XC.rdv (.sl (m := xs.length) hmem (by decide) (by simp)) fun ao m hv _ _ _ => ?_
  subst hv
  have hat := net_at (n := n) (lost := lost) hp
  by_cases hfull : 64 ≤ xs.length
  · have e : wput (lost, xs) k s = (lost + 1, xs) := by unfold wput; rw [if_pos hfull]
    rw [e]
    have hself : ps.set (f * 8 + g) (Value.slice ao xs.length m, xs) = ps := lset_self hp
    have sp := net_lost (n := n) (lost := lost) ps 1
    refine go (k := ?_)
    refine XE.all ?_
    refine XE.ret0 (Value.slice ao xs.length m) [0] rfl trivial rfl rfl ?_
    show _ = [netE b n (lost + 1) (ps.set (f * 8 + g) (Value.slice ao xs.length m, xs))]
    rw [hself]; rfl
  · have e : wput (lost, xs) k s = (lost, xs.take k ++ s :: xs.drop k) := by unfold wput; rw [if_neg hfull]
    rw [e]
    refine XC.outP hp ?_
    refine go (k := ?_)
    refine XL.make (.bslice rfl rfl rfl rfl rfl rfl) rfl fun _ _ hb => ?_
    obtain ⟨bs, rfl, rfl⟩ := hb
    refine go (k := ?_)
    refine XL.call [1, 0] [2, 3] rfl rfl rfl rfl rfl (fun _ w _ ho => insert_ok _ bs k xs s w hk (by omega) ho) fun v' _ => ?_
    refine XL.slv (.head _) fun ao' q m' hv _ _ => ?_
    subst hv
    refine go (k := ?_)
    refine XL.stS rfl rfl rfl rfl rfl rfl (.tail _ (.head _)) (net_set hp (.slice ao' q m', xs.take k ++ s :: xs.drop k)) (.there .here) ?_
    refine go (k := ?_)
    refine XE.inP (f := wyf) (q := (.slice ao' q m', xs.take k ++ s :: xs.drop k)) hlen ?_
    refine XE.all ?_
    exact XE.end0 (Value.slice ao' q m') [0] rfl trivial rfl rfl rfl
set_option maxHeartbeats 1000000 in
theorem take_ok (w : World) (hf : (f : Int) < n) (hg : (g : Int) < n) (hne : f ≠ g) (hn : n ≤ 8) (hl : xs.length ≤ 64) (hp : ps[f * 8 + g]? = some (v, xs)) (ho : Owns w [netE b n lost ps]) :
    Fx Try.prog 14 [ptr b, iv f, iv g] w (Ret w [netE b n lost ps] (fun _ : Value => .tuple #[str (xs.headD []), iv (if xs = [] then 5 else 0)]) (fun v' => [netE b n lost (ps.set (f * 8 + g) (v', xs.tail))]) (fun _ => True)) := by
  refine Fx.of Try.func14 rfl (by kernel_rfl) Try.ntmps14 rfl ho ?_
  refine XC.open1 ?_
  have hmem := net_mem hp b n lost
  have hlen : f * 8 + g < ps.length := (List.getElem?_eq_some_iff.1 hp).1
  refine XC.rdv (.sl (m := xs.length) hmem (by decide) (by simp)) fun ao m hv _ _ hao => ?_
  subst hv
  have hat := net_at (n := n) (lost := lost) hp
  refine go (k := ?_)
  refine XL.q (.call rfl rfl fun _ w' hs => at_ok b n _ _ _ f g w' hf hg hne hn (hs.own.ok _ (.head _))) rfl ?_
  cases xs with
  | nil =>
    have hself : ps.set (f * 8 + g) (Value.slice ao ([] : List Tx).length m, []) = ps := lset_self hp
    refine go (k := ?_)
    refine XE.all ?_
    refine XE.ret2 (Value.slice ao ([] : List Tx).length m) [0] rfl rfl rfl trivial rfl rfl ?_
    show _ = [netE b n lost (ps.set (f * 8 + g) (Value.slice ao ([] : List Tx).length m, []))]
    rw [hself]; rfl
  | cons x xs =>
    have hpos : 0 < (x :: xs).length := Nat.succ_pos _
    obtain ⟨b1, o1, rfl⟩ : ∃ b off, ao = some ⟨b, off, none⟩ := hao.resolve_left (by omega)
    refine go (k := ?_)
    refine XL.q (.ldRd (j := 0 * 1) (k := 1) (m := (x :: xs).length) (xs := strs (x :: xs)) rfl rfl rfl (.sl hmem (by decide) (by simp)) hpos rfl) rfl ?_
    refine go (k := ?_)
    refine XL.outP hp ?_
    refine XL.call [0] [1, 2] rfl rfl rfl rfl rfl (fun _ w _ ho => delete0_ok _ x xs w (by simp only [List.length_cons] at hl; omega) ho) fun v' _ => ?_
    refine XL.slv (.head _) fun ao' q m' hv _ _ => ?_
    subst hv
    refine go (k := ?_)
    refine XL.stS rfl rfl rfl rfl rfl rfl (.tail _ (.head _)) (net_set hp (.slice ao' q m', xs)) (.there .here) ?_
    refine go (k := ?_)
    refine XE.inP (f := wyf) (q := (.slice ao' q m', xs)) hlen ?_
    refine XE.all ?_
    exact XE.ret2 (Value.slice ao' q m') [0] rfl rfl rfl trivial rfl rfl rfl
end
theorem take_none (f g : Int) (w : World) (x : Value) (e : Int) (he : e ≠ 0) (h : ∀ w', Kept (ids []) w w' → Fx Try.prog 24 [x, iv f, iv g] w' (Pure w' (.tuple #[.pointer none, iv e]))) : Fx Try.prog 14 [x, iv f, iv g] w (Pure w (.tuple #[str [], iv e])) := by
  refine Fx.of (L0 := []) Try.func14 rfl (by kernel_rfl) Try.ntmps14 rfl (Owns.nil w) ?_
  refine go (k := ?_)
  refine XL.q (.call rfl rfl fun _ w' hs => h w' hs.kept) rfl ?_
  refine go (k := ?_)
  exact XE.ret2 () [] rfl rfl rfl trivial rfl rfl rfl
theorem post_none (f g fa : Int) (s : Tx) (w : World) (x : Value) (e : Int) (he : e ≠ 0) (h : ∀ w', Kept (ids []) w w' → Fx Try.prog 24 [x, iv f, iv g] w' (Pure w' (.tuple #[.pointer none, iv e]))) : Fx Try.prog 16 [x, iv f, iv g, str s, iv fa] w (Pure w (iv e)) := by
  refine Fx.of (L0 := []) Try.func16 rfl (by kernel_rfl) Try.ntmps16 rfl (Owns.nil w) ?_
  refine go (k := ?_)
  refine XL.q (.call rfl rfl fun _ w' hs => h w' hs.kept) rfl ?_
  refine go (k := ?_)
  exact XE.ret1 () [] rfl rfl trivial rfl rfl rfl
theorem post_long (b f g : Nat) (n fa : Int) (t : TypeId) (fz : Nat × Nat) (cs : List Value) (s : Tx) (w : World) (hf : (f : Int) < n) (hg : (g : Int) < n) (hne : f ≠ g) (hn : n ≤ 8) (hs : 4096 < s.length) (hb : w.heap[b]? = some (.cells (iv n :: cs).toArray t fz)) :
    Fx Try.prog 16 [ptr b, iv f, iv g, str s, iv fa] w (Pure w (iv 3)) := by
  refine Fx.of (L0 := []) Try.func16 rfl (by kernel_rfl) Try.ntmps16 rfl (Owns.nil w) ?_
  refine go (k := ?_)
  refine XL.q (.call rfl rfl fun _ w' hs => at_ok b n _ _ _ f g w' hf hg hne hn ((hs.kept.same b (Array.getElem?_eq_some_iff.1 hb).1 (by simp [X.ids])).trans hb)) rfl ?_
  refine go (k := ?_)
  exact XE.ret1 () [] rfl rfl trivial rfl rfl rfl
end Go.X
