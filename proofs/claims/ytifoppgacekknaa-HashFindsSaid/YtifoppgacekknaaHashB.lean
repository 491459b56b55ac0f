/- Contracts of an Index's functions. -/
import Derived.Test.YtifoppgacekknaaHashA
namespace Go.X
open Go Go.Proofs
abbrev Ixs := List (Value × List Int)
abbrev ixf (p : Value × List Int) : Ent := .sl p.1 35 1 (uvs p.2)
abbrev ixB (b : Nat) (m : Bool) (ps : Ixs) : Ent := .blk b (.bool m :: ps.map (·.1)) 50
/-- an index in memory -/
def ixG (b : Nat) (ps : Ixs) : Heap := ixB b true ps :: ps.map ixf
abbrev ixE (b : Nat) (ps : Ixs) : Ent := grp (ixG b ps)
theorem is_ok (b : Nat) (m : Bool) (cs : List Value) (t : TypeId) (fz : Nat × Nat) (w : World) (hb : w.heap[b]? = some (.cells (Value.bool m :: cs).toArray t fz)) : Fx Try.prog 26 [ptr b] w (Pure w (.bool m)) := by
  refine Fx.of (L0 := []) Try.func26 rfl (by kernel_rfl) Try.ntmps26 rfl (Owns.nil w) ?_
  have hB : b ∉ ids ([] : Heap) := by simp [X.ids]
  have h0 : (Value.bool m :: cs)[0 + 0]? = some (Value.bool m) := rfl
  refine go (k := ?_)
  exact XE.ret1 () [] rfl rfl trivial rfl rfl rfl
theorem is_nil (w : World) : Fx Try.prog 26 [.pointer none] w (Pure w (.bool false)) := by
  refine Fx.of (L0 := []) Try.func26 rfl (by kernel_rfl) Try.ntmps26 rfl (Owns.nil w) ?_
  refine go (k := ?_)
  exact XE.ret1 () [] rfl rfl trivial rfl rfl rfl
theorem new_ok (w : World) : Fx Try.prog 11 [] w (Ret w [] (fun b : Nat => ptr b) (fun b => [ixE b (List.replicate 16 (.slice none 0 0, []))]) (fun _ => True)) := by
  refine Fx.of (L0 := []) Try.func11 rfl (by kernel_rfl) Try.ntmps11 rfl (Owns.nil w) ?_
  refine go (k := ?_)
  refine XL.box rfl rfl rfl fun b => ?_
  refine go (k := ?_)
  refine XE.addNil 35 1 ?_
  refine XE.addNil 35 1 ?_
  refine XE.addNil 35 1 ?_
  refine XE.addNil 35 1 ?_
  refine XE.addNil 35 1 ?_
  refine XE.addNil 35 1 ?_
  refine XE.addNil 35 1 ?_
  refine XE.addNil 35 1 ?_
  refine XE.addNil 35 1 ?_
  refine XE.addNil 35 1 ?_
  refine XE.addNil 35 1 ?_
  refine XE.addNil 35 1 ?_
  refine XE.addNil 35 1 ?_
  refine XE.addNil 35 1 ?_
  refine XE.addNil 35 1 ?_
  refine XE.addNil 35 1 ?_
  refine XE.pk (M := ixG b (List.replicate 16 (.slice none 0 0, []))) [16, 0, 1, 2, 3, 4, 5, 6, 7, 8, 9, 10, 11, 12, 13, 14, 15] rfl rfl ?_
  refine XE.all ?_
  exact XE.ret1 b [0] rfl rfl trivial rfl rfl rfl
/-- the cells of an index -/
theorem ix_at {ps : Ixs} {j : Nat} {p : Value × List Int} (hp : ps[j]? = some p) (m : Bool) : (Value.bool m :: ps.map (·.1))[0 + 1 + j * 1]? = some p.1 := by
  rw [show 0 + 1 + j * 1 = j + 1 by omega, List.getElem?_cons_succ, List.getElem?_map, hp]; rfl
theorem ix_mem {ps : Ixs} {j : Nat} {p : Value × List Int} (hp : ps[j]? = some p) (b : Nat) (m : Bool) : ixf p ∈ ixB b m ps :: ps.map ixf := .tail _ (List.mem_map.2 ⟨p, List.mem_of_getElem? hp, rfl⟩)
theorem add_there (b : Nat) (ps : Ixs) (s : List UInt8) (id : Int) (v : Value) (xs : List Int) (w : World) (hs : s.length ≤ 10000) (hp : ps[bucket s]? = some (v, xs)) (hl : xs.length ≤ 1000000) (hid : id ∈ xs) (ho : Owns w [ixE b ps]) :
    Fx Try.prog 17 [ptr b, str s, uv id] w (Ret w [ixE b ps] (fun _ : Unit => .int .i64 6) (fun _ => [ixE b ps]) (fun _ => True)) := by
  refine Fx.of Try.func17 rfl (by kernel_rfl) Try.ntmps17 rfl ho ?_
  refine XC.open1 ?_
  have hlt := bucket_lt s
  have hat := ix_at hp true
  have hmem := ix_mem hp b true
  have hidx : 0 ≤ idxOf id xs := Int.not_lt.1 (fun h => (idxOf_neg.1 h) hid)
  refine go (k := ?_)
  refine XL.q (.call rfl rfl fun _ w hs => is_ok b true _ _ _ w (hs.own.ok _ (.head _))) rfl ?_
  refine go (k := ?_)
  refine XD.q (.call rfl rfl fun _ w _ => hbucket_ok s hs w) rfl ?_
  refine go (k := ?_)
  refine XL.q (.call rfl rfl fun _ w hs => contains_ok v xs id w ((hs.own.ok _ hmem).rowAt (by decide) (by simp)) (by omega)) rfl ?_
  refine go (k := ?_)
  refine XE.all ?_
  exact XE.ret1 () [0] rfl rfl trivial rfl rfl rfl

theorem ix_set {ps : Ixs} {j : Nat} {p q : Value × List Int} (hp : ps[j]? = some p) (m : Bool) : SplL (.bool m :: ps.map (·.1)) (0 + 1 + j * 1) [q.1] (.bool m :: (ps.set j q).map (·.1)) := by
  have hlt : j < ps.length := (List.getElem?_eq_some_iff.1 hp).1
  have h1 := SplL.one (cs := .bool m :: ps.map (·.1)) (k := j + 1) q.1 (by simp; omega)
  rw [show 0 + 1 + j * 1 = j + 1 by omega]
  have e : (Value.bool m :: ps.map (·.1)).set (j + 1) q.1 = .bool m :: (ps.set j q).map (·.1) := by simp [List.map_set]
  rwa [e] at h1
theorem add_new (b : Nat) (ps : Ixs) (s : List UInt8) (id : Int) (v : Value) (xs : List Int) (w : World) (hs : s.length ≤ 10000) (hp : ps[bucket s]? = some (v, xs)) (hl : xs.length ≤ 1000000) (hid : id ∉ xs) (ho : Owns w [ixE b ps]) :
    Fx Try.prog 17 [ptr b, str s, uv id] w (Ret w [ixE b ps] (fun _ : Value => .int .i64 0) (fun v' => [ixE b (ps.set (bucket s) (v', xs ++ [id]))]) (fun _ => True)) := by
  refine Fx.of Try.func17 rfl (by kernel_rfl) Try.ntmps17 rfl ho ?_
  refine XC.open1 ?_
  have hlt := bucket_lt s
  have hat := ix_at hp true
  have hmem := ix_mem hp b true
  have hidx : ¬ 0 ≤ idxOf id xs := by have := (idxOf_neg (x := id) (l := xs)).2 hid; omega
  refine go (k := ?_)
  refine XL.q (.call rfl rfl fun _ w hs => is_ok b true _ _ _ w (hs.own.ok _ (.head _))) rfl ?_
  refine go (k := ?_)
  refine XD.q (.call rfl rfl fun _ w _ => hbucket_ok s hs w) rfl ?_
  refine go (k := ?_)
  refine XL.q (.call rfl rfl fun _ w hs => contains_ok v xs id w ((hs.own.ok _ hmem).rowAt (by decide) (by simp)) (by omega)) rfl ?_
  refine go (k := ?_)
  refine XL.make (.bslice rfl rfl rfl rfl rfl rfl) rfl fun _ _ hb => ?_
  obtain ⟨b1, rfl, rfl⟩ := hb
  refine XL.app (m := 1) (news := [uv id]) (L' := fun v' => .blk b1 [uv id] 35 :: ixB b true ps :: (ps.set (bucket s) (v', xs ++ [id])).map ixf) rfl rfl rfl rfl rfl rfl (by decide) (.tail _ hmem) (.blk (.head _) rfl (Nat.le_refl _) rfl) rfl
    (by simp; omega) (by simp; omega) (fun v' => .there (.there ?_)) rfl fun v' => ?_
  · have := Upd.mapSet (f := ixf) (q := (v', xs ++ [id])) hp
    have e1 : uvs (xs ++ [id]) = uvs xs ++ [uv id] := uvs_app xs [id]
    simp only [ixf, e1] at this
    exact this
  refine go (k := ?_)
  have hlen : bucket s < ps.length := (List.getElem?_eq_some_iff.1 hp).1
  have hm' : Ent.sl v' 35 1 (uvs (xs ++ [id])) ∈ (.blk b1 [uv id] 35 :: ixB b true ps :: (ps.set (bucket s) (v', xs ++ [id])).map ixf : Heap) :=
    .tail _ (.tail _ (List.mem_map.2 ⟨(v', xs ++ [id]), List.mem_of_getElem? (List.getElem?_set_self hlen), rfl⟩))
  refine XL.slv hm' fun ao q m hv _ _ => ?_
  subst hv
  refine XL.stS rfl rfl rfl rfl rfl rfl (.tail _ (.head _)) (ix_set (q := (.slice ao q m, xs ++ [id])) hp true) (.there .here) ?_
  refine go (k := ?_)
  refine XE.drop1 (XE.all ?_)
  exact XE.ret1 (.slice ao q m) [0] rfl rfl trivial rfl rfl rfl

theorem drop_none (b : Nat) (ps : Ixs) (s : List UInt8) (id : Int) (v : Value) (xs : List Int) (w : World) (hs : s.length ≤ 10000) (hp : ps[bucket s]? = some (v, xs)) (hl : xs.length ≤ 1000000) (hid : id ∉ xs) (ho : Owns w [ixE b ps]) :
    Fx Try.prog 19 [ptr b, str s, uv id] w (Ret w [ixE b ps] (fun _ : Unit => .int .i64 5) (fun _ => [ixE b ps]) (fun _ => True)) := by
  refine Fx.of Try.func19 rfl (by kernel_rfl) Try.ntmps19 rfl ho ?_
  refine XC.open1 ?_
  have hlt := bucket_lt s
  have hat := ix_at hp true
  have hmem := ix_mem hp b true
  have hidx : idxOf id xs < 0 := idxOf_neg.2 hid
  refine go (k := ?_)
  refine XL.q (.call rfl rfl fun _ w hs => is_ok b true _ _ _ w (hs.own.ok _ (.head _))) rfl ?_
  refine go (k := ?_)
  refine XD.q (.call rfl rfl fun _ w _ => hbucket_ok s hs w) rfl ?_
  refine go (k := ?_)
  refine XL.q (.call rfl rfl fun _ w hs => index_ok v xs id w ((hs.own.ok _ hmem).rowAt (by decide) (by simp)) (by omega)) rfl ?_
  refine go (k := ?_)
  refine XE.all ?_
  exact XE.ret1 () [0] rfl rfl trivial rfl rfl rfl
theorem drop_there (b : Nat) (ps : Ixs) (s : List UInt8) (id : Int) (v : Value) (xs : List Int) (i : Nat) (w : World) (hs : s.length ≤ 10000) (hp : ps[bucket s]? = some (v, xs)) (hl : xs.length ≤ 1000000) (hid : idxOf id xs = i) (ho : Owns w [ixE b ps]) :
    Fx Try.prog 19 [ptr b, str s, uv id] w (Ret w [ixE b ps] (fun _ : Value => .int .i64 0) (fun v' => [ixE b (ps.set (bucket s) (v', xs.eraseIdx i))]) (fun _ => True)) := by
  refine Fx.of Try.func19 rfl (by kernel_rfl) Try.ntmps19 rfl ho ?_
  refine XC.open1 ?_
  have hlt := bucket_lt s
  have hat := ix_at hp true
  have hmem := ix_mem hp b true
  have hix := idxOf_lt id xs
  have hil : i < xs.length := by omega
  have hlen : bucket s < ps.length := (List.getElem?_eq_some_iff.1 hp).1
  refine go (k := ?_)
  refine XL.q (.call rfl rfl fun _ w hs => is_ok b true _ _ _ w (hs.own.ok _ (.head _))) rfl ?_
  refine go (k := ?_)
  refine XD.q (.call rfl rfl fun _ w _ => hbucket_ok s hs w) rfl ?_
  refine go (k := ?_)
  refine XL.q (.call rfl rfl fun _ w hs => index_ok v xs id w ((hs.own.ok _ hmem).rowAt (by decide) (by simp)) (by omega)) rfl ?_
  rw [hid]
  refine go (k := ?_)
  refine XL.outP hp ?_
  refine XL.call [0] [1, 2] rfl rfl rfl rfl rfl (fun _ w _ ho => delete_ok v xs i w hil (by omega) ho) fun v' _ => ?_
  refine XL.slv (.head _) fun ao q m hv _ _ => ?_
  subst hv
  refine go (k := ?_)
  refine XL.stS rfl rfl rfl rfl rfl rfl (.tail _ (.head _)) (ix_set (q := (.slice ao q m, xs.eraseIdx i)) hp true) (.there .here) ?_
  refine go (k := ?_)
  refine XE.inP (f := ixf) (q := (.slice ao q m, xs.eraseIdx i)) hlen ?_
  refine XE.all ?_
  exact XE.ret1 (.slice ao q m) [0] rfl rfl trivial rfl rfl rfl
theorem find_ok (b : Nat) (ps : Ixs) (s : List UInt8) (v : Value) (xs : List Int) (w : World) (hs : s.length ≤ 10000) (hp : ps[bucket s]? = some (v, xs)) (hl : xs.length ≤ 1000000) (ho : Owns w [ixE b ps]) :
    Fx Try.prog 23 [ptr b, str s] w (Ret w [ixE b ps] (fun v : Value => v) (fun v => [.sl v 35 1 (uvs xs), ixE b ps]) (fun _ => True)) := by
  refine Fx.of Try.func23 rfl (by kernel_rfl) Try.ntmps23 rfl ho ?_
  refine XC.open1 ?_
  have hlt := bucket_lt s
  have hat := ix_at hp true
  have hmem := ix_mem hp b true
  refine go (k := ?_)
  refine XL.q (.call rfl rfl fun _ w hs => is_ok b true _ _ _ w (hs.own.ok _ (.head _))) rfl ?_
  refine go (k := ?_)
  refine XD.q (.call rfl rfl fun _ w _ => hbucket_ok s hs w) rfl ?_
  refine go (k := ?_)
  refine XL.make (.call rfl rfl fun _ w hs => clone_ok v xs w ((hs.own.ok _ hmem).rowAt (by decide) (by simp)) (by omega)) rfl fun v' H hb => ?_
  obtain ⟨_, _, rfl, rfl⟩ := hb
  refine go (k := ?_)
  refine XE.allR (L := [.sl v' 35 1 (uvs xs)]) (G := ixG b ps) ?_
  exact XE.ret1 v' [0, 1] rfl rfl trivial rfl rfl rfl
end Go.X
