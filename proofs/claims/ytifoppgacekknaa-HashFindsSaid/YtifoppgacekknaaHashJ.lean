/- HashPlays. -/
import Derived.Test.YtifoppgacekknaaHashI
namespace Go.X
open Go Go.Proofs
/-- what an index hands out, as pairs -/
def prs : Ixs → Nat → List (Nat × Int)
  | [], _ => []
  | p :: ps, j => p.2.map (fun id => (j, id)) ++ prs ps (j + 1)
theorem items_prs : ∀ (ps : Ixs) (j : Nat), itemsFrom ps j = (prs ps j).map fun p => [Value.int .u8 (p.1 : Int), uv p.2]
  | [], _ => rfl
  | p :: ps, j => by simp only [itemsFrom, prs, List.map_append, List.map_map, items_prs ps (j + 1)]; rfl
theorem prs_snd : ∀ (ps : Ixs) (j : Nat), (prs ps j).map (·.2) = (ps.map (·.2)).flatten
  | [], _ => rfl
  | p :: ps, j => by
    simp only [prs, List.map_append, List.map_map, List.map_cons, List.flatten_cons, prs_snd ps (j + 1)]
    congr 1
    exact List.map_id _
theorem prs_mem : ∀ (ps : Ixs) (j : Nat), ∀ p ∈ prs ps j, j ≤ p.1 ∧ p.1 < j + ps.length
  | [], _, _, h => by cases h
  | q :: ps, j, p, h => by
    rcases List.mem_append.1 h with h | h
    · obtain ⟨id, _, rfl⟩ := List.mem_map.1 h
      exact ⟨Nat.le_refl _, by simp⟩
    · have := prs_mem ps (j + 1) p h
      simp only [List.length_cons]; omega
theorem prs_sorted : ∀ (ps : Ixs) (j : Nat), (prs ps j).Pairwise (fun a b => a.1 ≤ b.1)
  | [], _ => .nil
  | q :: ps, j => by
    refine List.pairwise_append.2 ⟨?_, prs_sorted ps (j + 1), fun a ha b hb => ?_⟩
    · rw [List.pairwise_map]; exact List.pairwise_of_forall fun _ _ => Nat.le_refl _
    · obtain ⟨id, _, rfl⟩ := List.mem_map.1 ha
      have := prs_mem ps (j + 1) b hb
      simp only; omega
theorem hashPlays_ok (v : Value) (acts : List HAct) (w : World) (hv : RowAt w v 3 acts.length (acells acts)) (hl : acts.length ≤ maxLen) (hs : ∀ a ∈ acts, a.s.length ≤ maxLen ∧ 0 ≤ a.what ∧ a.what ≤ 255) :
    Fx Try.prog 4 [v] w (Pure w (.bool true)) := by
  have hr : ∀ L : Heap, Rd w (ids []) L v 3 acts.length (acells acts) := fun L => .old hv (fun _ _ _ => by simp [X.ids])
  refine Fx.of (L0 := []) Try.func4 rfl (by kernel_rfl) Try.ntmps4 rfl (Owns.nil w) ?_
  refine XC.rdv (hr _) fun ao m hva _ _ haa => ?_
  subst hva
  refine go (k := ?_)
  refine XL.alloc rfl rfl rfl fun b2 => ?_
  refine go (k := ?_)
  refine XL.q (.call rfl rfl fun _ w' hs' => few_ok _ acts w' (hr _ w' hs'.own hs'.kept) (by simp only [maxLen] at hl; omega) (fun a ha => by have := (hs a ha).1; simp only [maxLen] at this; omega)) rfl ?_
  cases hfew : fewB acts with
  | false =>
    refine go (k := ?_)
    refine XL.q (.call rfl rfl fun _ w _ => awake3_ok w) rfl ?_
    refine go (k := ?_)
    exact XE.retC1 () [] rfl rfl rfl rfl (.head _) rfl trivial rfl rfl rfl
  | true =>
    refine go (k := ?_)
    refine XL.call [] [0] rfl rfl rfl rfl rfl (fun _ w _ _ => new_ok w) fun b _ => ?_
    refine go (k := ?_)
    refine XL.box rfl rfl rfl fun rb => ?_
    refine go (k := ?_)
    refine XC.addNil 58 2 ?_
    refine XC.loop (α := Nat × Ixs × Value × List (Nat × Int)) (fun x => [(0, .slice ao acts.length m), (2, ptr b2), (3, ptr b), (4, ptr rb), (5, .int .i64 x.1)]) (fun x => ixE b x.2.1 :: (rixG rb x.2.2.1 x.2.2.2 ++ [.blk b2 [.bool false] 4]))
      (fun x => x.1 ≤ acts.length ∧ HRel x.2.1 x.2.2.2 ∧ x.2.2.2.length ≤ x.1) (fun x => acts.length - x.1) (0, ps0, .slice none 0 0, []) [2, 1, 0, 3] ⟨Nat.zero_le _, HRel.new, Nat.le_refl _⟩ ⟨rfl, rfl, rfl, rfl, rfl, trivial⟩ rfl rfl ?_
    rintro ⟨k, ps, u, rl⟩ ⟨hk, hR, hrl⟩
    simp only at hk hR hrl ⊢
    have hfew' : (∀ a ∈ acts, a.s.length ≤ 300) ∧ acts.length ≤ 100 := by
      simp only [fewB, Bool.and_eq_true, List.all_eq_true, decide_eq_true_eq] at hfew
      refine ⟨fun a ha => hfew.1 a ?_, hfew.2⟩
      rw [List.take_of_length_le (by omega)]; exact ha
    by_cases hkl : k < acts.length
    · obtain ⟨a, ha⟩ : ∃ x, acts[k]? = some x := ⟨_, List.getElem?_eq_getElem hkl⟩
      obtain ⟨b1, o1, rfl⟩ : ∃ b off, ao = some ⟨b, off, none⟩ := haa.resolve_left (by omega)
      have hcut : cut (acells acts) (k * 3) 3 = some [.int .u8 a.what, str a.s, uv a.id] := by
        obtain ⟨h1, h2, h3⟩ := acells_at ha
        have hlt : k * 3 + 3 ≤ (acells acts).length := by rw [acells_len]; omega
        rw [cut_some hlt]
        congr 1
        apply List.ext_getElem?
        intro q
        rw [List.getElem?_take]
        match q with
        | 0 => simpa using h1
        | 1 => simpa using h2
        | 2 => simpa using h3
        | q + 3 => simp only [List.getElem?_drop]; rw [if_neg (by omega)]; rfl
      refine go (k := ?_)
      refine XD.q (.ldRdN (j := k * 3) rfl rfl rfl rfl (hr _) (by omega) hcut) rfl ?_
      refine go (k := ?_)
      have has := hs a (List.mem_of_getElem? ha)
      refine XD.toR (by decide +kernel) (by decide +kernel) (by decide +kernel) ?_
      refine XR.seq (by decide +kernel) ?_
      refine XL.call [0, 1, 2] [3] rfl rfl rfl rfl rfl (fun _ w _ ho => one_ok b rb ps u rl a w hR (hfew'.1 a (List.mem_of_getElem? ha)) (by omega) has.2 ho) fun x hx => ?_
      obtain ⟨ps', u', rl'⟩ := x
      obtain ⟨hR', hrl'⟩ := hx
      simp only at hR' hrl' ⊢
      refine XL.slv (.tail _ (.tail _ (.head _))) fun ao' q' m' hv' hq' _ => ?_
      subst hv'
      obtain rfl : q' = rl'.length := by rw [rcells_len] at hq'; omega
      refine XL.nil (XE.toRk 7 rfl (by decide +kernel) ?_)
      refine XD.run (C := some [ixE b ps']) (L := rixG rb (.slice ao' rl'.length m') rl' ++ [.blk b2 [.bool false] 4]) ?_
      refine go (k := ?_)
      refine XD.mutY rfl rfl rfl (.call rfl rfl fun _ w _ ho => len_ok b ps' w hR'.n (hR'.small (N := 1000000) (by omega)) (by rw [hR'.len]; omega) ho) rfl rfl ?_
      refine go (k := ?_)
      refine XD.lookY (s' := 39) rfl rfl rfl (.head _) rfl (fun u H ⟨x, _, hu, _⟩ => by subst hu; exact .neq rfl rfl) rfl ?_
      refine go (k := ?_)
      have hlen := hR'.len
      refine XD.toR (by decide +kernel) (by decide +kernel) (by decide +kernel) ?_
      rintro v H ⟨_, _, rfl, rfl⟩
      refine XR.nil ?_
      refine go (k := ?_)
      exact XE.mid (k + 1, ps', .slice ao' rl'.length m', rl') [0, 1, 2, 3] ⟨⟨by simp only; omega, hR', by simp only; omega⟩, by simp only; omega⟩ ⟨rfl, rfl, rfl, rfl, rfl, trivial⟩ rfl rfl
    · refine go (k := ?_)
      refine XC.addNil 35 1 ?_
      refine XC.loop (α := Nat × Value) (fun x => [(2, ptr b2), (3, ptr b), (4, ptr rb), (6, x.2), (7, .int .i64 x.1)])
        (fun x => .sl x.2 35 1 (uvs ((List.range x.1).map fun i => ofB i rl).flatten) :: ixE b ps :: (rixG rb u rl ++ [.blk b2 [.bool false] 4]))
        (fun x => x.1 ≤ 16) (fun x => 16 - x.1) (0, .slice none 0 0) [0, 1, 2, 3, 4] (Nat.zero_le _) ⟨rfl, rfl, rfl, rfl, rfl, trivial⟩ rfl rfl ?_
      rintro ⟨j, vw⟩ hj
      simp only at hj ⊢
      have hflat : ∀ j, j ≤ 16 → ((List.range j).map fun i => ofB i rl).flatten.length ≤ 16 * rl.length := fun j hj => by
        have : ∀ j, ((List.range j).map fun i => ofB i rl).flatten.length ≤ j * rl.length := fun j => by
          induction j with
          | zero => simp
          | succ j ih =>
            rw [List.range_succ, List.map_append, List.flatten_append, List.length_append]
            have := ofB_len j rl
            simp only [List.map_cons, List.map_nil, List.flatten_cons, List.flatten_nil, List.append_nil]
            rw [Nat.succ_mul]; omega
        exact Nat.le_trans (this j) (Nat.mul_le_mul_right _ hj)
      by_cases hj16 : j < 16
      · refine go (k := ?_)
        refine XL.call [2, 3] [0, 1, 4] rfl rfl rfl rfl rfl (fun _ w _ ho => rof_ok rb u rl j w (by omega) ho) fun v' _ => ?_
        refine go (k := ?_)
        have e1 : ((List.range (j + 1)).map fun i => ofB i rl).flatten = ((List.range j).map fun i => ofB i rl).flatten ++ ofB j rl := by rw [List.range_succ, List.map_append, List.flatten_append]; simp
        have hb1 := hflat j (by omega)
        have hb2 := ofB_len j rl
        refine XL.app (m := (ofB j rl).length) (news := uvs (ofB j rl)) (L' := fun v'' => _ :: _ :: _ :: .sl v'' 35 1 (uvs ((List.range j).map fun i => ofB i rl).flatten ++ uvs (ofB j rl)) :: _) rfl rfl rfl rfl rfl rfl (by decide) (.tail _ (.tail _ (.tail _ (.head _))))
          (.sl (.head _) (by decide) (by simp)) (uvs_one _) (by simp only [uvs_len]; omega) (by simp only [uvs_len]; omega) (fun v'' => .there (.there (.there .here))) rfl fun v'' => ?_
        rw [← uvs_app, ← e1]
        refine go (k := ?_)
        exact XE.mid (j + 1, v'') [3, 4, 1, 2, 5] ⟨by simp only; omega, by simp only; omega⟩ ⟨rfl, rfl, rfl, rfl, rfl, trivial⟩ rfl rfl
      · obtain rfl : j = 16 := by omega
        refine go (k := ?_)
        refine XL.alloc rfl rfl rfl fun b9 => ?_
        refine go (k := ?_)
        refine XL.call [] [0, 1, 2, 3, 4, 5] rfl rfl rfl rfl rfl (fun _ w _ _ => all_ok (ptr b) rfl w) fun bx _ => ?_
        refine go (k := ?_)
        refine XL.alloc rfl rfl rfl fun b11 => ?_
        refine go (k := ?_)
        refine XC.addNil 35 1 ?_
        have hsort := prs_sorted ps 0
        have hpm := prs_mem ps 0
        rw [hR.n] at hpm
        have hprl : (prs ps 0).length = rl.length := by have := congrArg List.length (items_prs ps 0); rw [List.length_map] at this; rw [← this]; exact hR.len
        refine XC.rangeFunc (α := Value × List Int × Nat) (β := Empty) (H := fun x => [.blk b9 [x.1] 39, .sl x.1 35 1 (uvs x.2.1), .blk b11 [.int .u8 (x.2.2 : Nat)] 5, .sl vw 35 1 (uvs ((List.range 16).map fun i => ofB i rl).flatten), .blk b2 [.bool false] 4])
          (φ := fun k x => x.2.1 = ((prs ps 0).take k).map (·.2) ∧ ∀ i p, k ≤ i → (prs ps 0)[i]? = some p → x.2.2 ≤ p.1) (Z := fun _ => []) (ψ := fun _ => False) (jmp := fun _ => .ret) (.slice none 0 0, [], 0) [2, 5, 3, 0, 1, 4, 8]
          (fun vs => zipE [12, 13] vs [(2, ptr b2), (9, ptr b9), (11, ptr b11)]) rfl (all_seq bx b ps hR.n (hR.small (N := 1000000) (by omega))) ⟨rfl, fun _ _ _ _ => Nat.zero_le _⟩ rfl rfl ?_ rfl ?_ ?_ ?_ (fun _ y => y.elim)
        · intro k vs hvs
          obtain ⟨j, id, rfl, _⟩ := items_form ps 0 k vs hvs
          rfl
        · intro l k vs w L' hvs
          obtain ⟨j, id, rfl, _⟩ := items_form ps 0 k vs hvs
          refine go (k := ?_)
          exact XE.midI () trivial ⟨rfl, rfl, rfl, rfl, rfl, trivial⟩ rfl
        · rintro l k vs ⟨vg, gl, last⟩ w hvs ⟨hgl, hlast⟩ _
          simp only at hgl hlast ⊢
          rw [items_prs, List.getElem?_map] at hvs
          cases hp : (prs ps 0)[k]? with
          | none => rw [hp] at hvs; cases hvs
          | some p =>
            rw [hp] at hvs
            obtain rfl := Option.some.inj hvs
            obtain ⟨j, id⟩ := p
            have hj := hpm _ (List.mem_of_getElem? hp)
            have hle := hlast k _ (Nat.le_refl _) hp
            have hkl := (List.getElem?_eq_some_iff.1 hp).1
            simp only at hj hle
            refine go (k := ?_)
            refine XL.make (.bslice rfl rfl rfl rfl rfl rfl) rfl fun _ _ hb => ?_
            obtain ⟨bs, rfl, rfl⟩ := hb
            have hgll : gl.length ≤ rl.length := by rw [hgl, List.length_map, List.length_take]; omega
            refine XL.app (m := 1) (news := [uv id]) (L' := fun v'' => _ :: _ :: _ :: _ :: .sl v'' 35 1 (uvs gl ++ [uv id]) :: _) rfl rfl rfl rfl rfl rfl (by decide) (.tail _ (.tail _ (.tail _ (.tail _ (.head _)))))
              (.blk (.head _) rfl (Nat.le_refl _) rfl) rfl (by simp only [uvs_len, List.length_singleton]; omega) (by simp only [uvs_len, List.length_singleton]; omega) (fun v'' => .there (.there (.there (.there .here)))) rfl fun v'' => ?_
            rw [show uvs gl ++ [uv id] = uvs (gl ++ [id]) from (uvs_app gl [id]).symm]
            refine XL.slv (.tail _ (.tail _ (.tail _ (.tail _ (.head _))))) fun ao q m hv _ _ => ?_
            subst hv
            refine go (k := ?_)
            refine XE.round (.slice ao q m, gl ++ [id], j) [1, 2, 3, 4, 5, 6, 7] ⟨?_, fun i p hi hip => ?_⟩ rfl rfl
            · simp only; rw [hgl, htake_snoc hp, List.map_append]; rfl
            · have := List.pairwise_iff_getElem.1 hsort k i (List.getElem?_eq_some_iff.1 hp).1 (List.getElem?_eq_some_iff.1 hip).1 (by omega)
              rw [(List.getElem?_eq_some_iff.1 hp).2, (List.getElem?_eq_some_iff.1 hip).2] at this
              exact this
        · rintro D ⟨vg, gl, last⟩ ⟨hgl, hlast⟩
          simp only at hgl hlast ⊢
          have hwant : gl = ((List.range 16).map fun i => ofB i rl).flatten := by
            rw [hgl, items_prs, List.length_map, List.take_length, prs_snd, hR.map]
          refine XE.slv (.tail _ (.tail _ (.tail _ (.tail _ (.head _))))) fun ao q m hv hq _ => ?_
          subst hv
          have hgll : gl.length ≤ 1000000 := by rw [hgl, List.length_map, List.length_take]; omega
          refine go (k := ?_)
          refine XL.q (.call (v := .bool true) rfl rfl fun _ w hs => by
            have h := same_ok (.slice ao q m) vw gl _ w ((hs.own.ok _ (.tail _ (.tail _ (.tail _ (.tail _ (.head _)))))).rowAt (by decide) (by simp)) ((hs.own.ok _ (.tail _ (.tail _ (.tail _ (.tail _ (.tail _ (.tail _ (.head _)))))))).rowAt (by decide) (by rw [uvs_len, Nat.mul_one])) hgll
            rw [decide_eq_true hwant] at h
            exact h) rfl ?_
          refine go (k := ?_)
          refine XL.q (.call rfl rfl fun _ w _ => awake3_ok w) rfl ?_
          refine go (k := ?_)
          refine XE.mark (.inl rfl) .here ?_
          exact XE.retC1 () [] rfl rfl rfl rfl (.tail _ (.tail _ (.tail _ (.tail _ (.tail _ (.tail _ (.tail _ (.head _)))))))) rfl trivial rfl rfl rfl
end Go.X
