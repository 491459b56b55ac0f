/- One act of both, and what is between an index and the reference. -/
import Derived.Test.YtifoppgacekknaaHashF
namespace Go.X
open Go Go.Proofs
/-- what is between the buckets and the reference's list -/
structure HRel (ps : Ixs) (rl : List (Nat × Int)) : Prop where
  n : ps.length = 16
  at_ : ∀ j, j < 16 → ∃ v, ps[j]? = some (v, ofB j rl)
  lt : ∀ p ∈ rl, p.1 < 16
theorem ofB_len (j : Nat) (rl : List (Nat × Int)) : (ofB j rl).length ≤ rl.length := by
  unfold ofB; rw [List.length_map]; exact List.length_filter_le _ _
theorem HRel.new : HRel ps0 [] := ⟨rfl, fun j hj => ⟨.slice none 0 0, by
  simp only [ps0, ofB, List.filter_nil, List.map_nil]; rw [List.getElem?_replicate, if_pos hj]⟩, fun p hp => by cases hp⟩
theorem HRel.add {ps : Ixs} {rl : List (Nat × Int)} (h : HRel ps rl) {j : Nat} (hj : j < 16) (v' : Value) (id : Int) : HRel (ps.set j (v', ofB j rl ++ [id])) (rl ++ [(j, id)]) := by
  refine ⟨by simp [h.n], fun j' hj' => ?_, fun p hp => ?_⟩
  · rw [ofB_app]
    by_cases e : j = j'
    · subst e
      exact ⟨v', by rw [List.getElem?_set_self (by rw [h.n]; exact hj), if_pos rfl]⟩
    · obtain ⟨v, hv⟩ := h.at_ j' hj'
      exact ⟨v, by rw [List.getElem?_set_ne e, hv, if_neg e]⟩
  · rcases List.mem_append.1 hp with hp | hp
    · exact h.lt p hp
    · rw [List.mem_singleton.1 hp]; exact hj
theorem HRel.drop {ps : Ixs} {rl : List (Nat × Int)} (h : HRel ps rl) {j : Nat} (hj : j < 16) (v' : Value) (id : Int) {i i' : Nat} (hi : idxOf (j, id) rl = i) (hi' : idxOf id (ofB j rl) = i') :
    HRel (ps.set j (v', (ofB j rl).eraseIdx i')) (rl.eraseIdx i) := by
  rw [erase_idx hi, erase_idx hi']
  refine ⟨by simp [h.n], fun j' hj' => ?_, fun p hp => h.lt p (del_mem hp)⟩
  rw [ofB_erase]
  by_cases e : j = j'
  · subst e
    exact ⟨v', by rw [List.getElem?_set_self (by rw [h.n]; exact hj), if_pos rfl]⟩
  · obtain ⟨v, hv⟩ := h.at_ j' hj'
    exact ⟨v, by rw [List.getElem?_set_ne e, hv, if_neg e]⟩
theorem one_ok (b rb : Nat) (ps : Ixs) (v : Value) (rl : List (Nat × Int)) (a : HAct) (w : World) (hR : HRel ps rl) (hs : a.s.length ≤ 300) (hl : rl.length ≤ 100000) (hw : 0 ≤ a.what ∧ a.what ≤ 255) (ho : Owns w (ixE b ps :: rixG rb v rl)) :
    Fx Try.prog 12 [ptr b, ptr rb, .agg #[.int .u8 a.what, str a.s, uv a.id]] w (Ret w (ixE b ps :: rixG rb v rl) (fun _ : Ixs × Value × List (Nat × Int) => .bool true) (fun x => ixE b x.1 :: rixG rb x.2.1 x.2.2) (fun x => HRel x.1 x.2.2 ∧ x.2.2.length ≤ rl.length + 1)) := by
  have hlt := bucket_lt a.s
  obtain ⟨vj, hvj⟩ := hR.at_ (bucket a.s) hlt
  have hbl := ofB_len (bucket a.s) rl
  have hmem := ofB_mem (j := bucket a.s) (rl := rl) (x := a.id)
  refine Fx.of Try.func12 rfl (by kernel_rfl) Try.ntmps12 rfl ho ?_
  refine go (k := ?_)
  refine XL.box rfl rfl rfl fun bx => ?_
  by_cases h0 : a.what % 3 = 0
  · refine go (k := ?_)
    by_cases hin : (bucket a.s, a.id) ∈ rl
    · refine XL.call [1] [0, 2, 3] rfl rfl rfl rfl rfl (fun _ w _ ho => add_there b ps a.s a.id vj _ w (by omega) hvj (by omega) (hmem.2 hin) ho) fun _ _ => ?_
      refine go (k := ?_)
      refine XL.call [2, 3] [0, 1] rfl rfl rfl rfl rfl (fun _ w _ ho => radd_there rb v rl a.s a.id w (by omega) (by omega) hin ho) fun _ _ => ?_
      refine go (k := ?_)
      exact XE.ret1 (ps, v, rl) [2, 0, 1] rfl rfl ⟨hR, by simp only; omega⟩ rfl rfl rfl
    · refine XL.call [1] [0, 2, 3] rfl rfl rfl rfl rfl (fun _ w _ ho => add_new b ps a.s a.id vj _ w (by omega) hvj (by omega) (fun h => hin (hmem.1 h)) ho) fun v1 _ => ?_
      refine go (k := ?_)
      refine XL.call [2, 3] [0, 1] rfl rfl rfl rfl rfl (fun _ w _ ho => radd_new rb v rl a.s a.id w (by omega) (by omega) hin ho) fun v2 _ => ?_
      refine go (k := ?_)
      exact XE.ret1 (_, v2, _) [2, 0, 1] rfl rfl ⟨hR.add hlt v1 a.id, by simp⟩ rfl rfl rfl
  by_cases h1 : a.what % 3 = 1
  · refine go (k := ?_)
    by_cases hin : (bucket a.s, a.id) ∈ rl
    · obtain ⟨i, hi⟩ := idxOf_mem hin
      obtain ⟨i', hi'⟩ := idxOf_mem (hmem.2 hin)
      refine XL.call [1] [0, 2, 3] rfl rfl rfl rfl rfl (fun _ w _ ho => drop_there b ps a.s a.id vj _ i' w (by omega) hvj (by omega) hi' ho) fun v1 _ => ?_
      refine go (k := ?_)
      refine XL.call [2, 3] [0, 1] rfl rfl rfl rfl rfl (fun _ w _ ho => rdrop_there rb v rl a.s a.id i w (by omega) (by omega) hi ho) fun v2 _ => ?_
      refine go (k := ?_)
      exact XE.ret1 (_, v2, _) [2, 0, 1] rfl rfl ⟨hR.drop hlt v1 a.id hi hi', by simp only; have := List.length_eraseIdx_le rl i; omega⟩ rfl rfl rfl
    · refine XL.call [1] [0, 2, 3] rfl rfl rfl rfl rfl (fun _ w _ ho => drop_none b ps a.s a.id vj _ w (by omega) hvj (by omega) (fun h => hin (hmem.1 h)) ho) fun _ _ => ?_
      refine go (k := ?_)
      refine XL.call [2, 3] [0, 1] rfl rfl rfl rfl rfl (fun _ w _ ho => rdrop_none rb v rl a.s a.id w (by omega) (by omega) hin ho) fun _ _ => ?_
      refine go (k := ?_)
      exact XE.ret1 (ps, v, rl) [2, 0, 1] rfl rfl ⟨hR, by simp only; omega⟩ rfl rfl rfl
  · refine go (k := ?_)
    refine XL.call [1] [0, 2, 3] rfl rfl rfl rfl rfl (fun _ w _ ho => find_ok b ps a.s vj _ w (by omega) hvj (by omega) ho) fun vl _ => ?_
    refine go (k := ?_)
    refine XL.call [3, 4] [0, 1, 2] rfl rfl rfl rfl rfl (fun _ w _ ho => rfind_ok rb v rl a.s w (by omega) (by omega) ho) fun v2 _ => ?_
    refine XL.q (.call rfl rfl fun _ w hs => same_ok vl v2 _ _ w ((hs.own.ok _ (.tail _ (.tail _ (.tail _ (.head _))))).rowAt (by decide) (by simp)) ((hs.own.ok _ (.head _)).rowAt (by decide) (by simp)) (by omega)) rfl ?_
    refine go (k := ?_)
    refine XC.slv (.tail _ (.tail _ (.tail _ (.head _)))) fun ao q m hv hq hqm => ?_
    subst hv
    obtain rfl : q = (ofB (bucket a.s) rl).length := by simpa using hq
    by_cases hz : (ofB (bucket a.s) rl).length = 0
    · refine XC.loop (α := Unit) (fun _ => [(9, .slice ao (ofB (bucket a.s) rl).length m), (10, .bool true), (11, .int .i64 0)]) (fun _ => ixE b ps :: rixG rb v rl) (fun _ => True) (fun _ => 0) () [4, 1, 2] trivial
        ⟨rfl, by simp [X.get], rfl, trivial⟩ rfl rfl ?_
      intro _ _
      refine go (k := ?_)
      exact XE.ret1 (ps, v, rl) [0, 1, 2] rfl rfl ⟨hR, by simp only; omega⟩ rfl rfl rfl
    · refine XC.openSl (m := (ofB (bucket a.s) rl).length) (.tail _ (.tail _ (.tail _ (.head _)))) (by decide) (by simp) (by omega) (fun _ _ => .there (.there (.there .here))) fun b1 cs cap hv' hc hcl hct => ?_
      cases hv'
      refine XC.loop (α := Nat × List Value) (fun x => [(9, .slice (some ⟨b1, 0, none⟩) (ofB (bucket a.s) rl).length m), (10, .bool true), (11, .int .i64 x.1)]) (fun x => .blk b1 x.2 35 :: ixE b ps :: rixG rb v rl)
        (fun x => x.1 ≤ (ofB (bucket a.s) rl).length ∧ m ≤ x.2.length) (fun x => (ofB (bucket a.s) rl).length - x.1) (0, cs) [3, 4, 1, 2] ⟨Nat.zero_le _, by simpa using hcl⟩
        ⟨rfl, by simp [X.get], rfl, trivial⟩ rfl rfl ?_
      rintro ⟨k, cs'⟩ ⟨hk, hcs⟩
      simp only at hk hcs ⊢
      by_cases hkl : k < (ofB (bucket a.s) rl).length
      · refine go (k := ?_)
        refine XL.stS rfl rfl rfl rfl rfl rfl (.head _) (SplL.one (k := k * 1) _ (by omega)) .here ?_
        refine go (k := ?_)
        exact XE.mid (k + 1, cs'.set (k * 1) (uv 99)) [0, 1, 2, 3] ⟨⟨by simp only; omega, by simp [hcs]⟩, by simp only; omega⟩ ⟨rfl, rfl, rfl, trivial⟩ rfl rfl
      · refine go (k := ?_)
        exact XE.ret1 (ps, v, rl) [1, 2, 3] rfl rfl ⟨hR, by simp only; omega⟩ rfl rfl rfl
end Go.X
