/- HashFinds: the walk. -/
import Derived.Test.YtifoppgacekknaaHashL
namespace Go.X
open Go Go.Proofs Go.RowKit
theorem erase_map {α β : Type} (f : α → β) : ∀ (l : List α) (i : Nat), (l.map f).eraseIdx i = (l.eraseIdx i).map f
  | [], _ => rfl
  | x :: l, 0 => rfl
  | x :: l, i + 1 => by simp only [List.map_cons, List.eraseIdx_cons_succ, erase_map f l i]
set_option maxHeartbeats 4000000 in
theorem hashFinds_ok (tx : Nat → List UInt8) (v : Value) (acts : List HAct) (w : World) (ht : ∀ i, (tx i).length ≤ maxLen) (hv : RowAt w v 3 acts.length (acells acts)) (hl : acts.length ≤ maxLen) (hs : ∀ a ∈ acts, a.s.length ≤ maxLen ∧ (0 ≤ a.what ∧ a.what ≤ 255) ∧ 0 ≤ a.id ∧ a.id ≤ 4294967295) :
    Fx Try.prog 6 [.agg ((List.range 8).map fun i => str (tx i)).toArray, v] w (Pure w (.bool true)) := by
  have hr : ∀ L : Heap, Rd w (ids []) L v 3 acts.length (acells acts) := fun L => .old hv (fun _ _ _ => by simp [X.ids])
  have htx : ∀ i, i < 8 → ((List.range 8).map fun i => str (tx i))[0 + i * 1]? = some (str (tx i)) := fun i hi => by
    rw [Nat.zero_add, Nat.mul_one, List.getElem?_map, List.getElem?_range hi]; rfl
  refine Fx.of (L0 := []) Try.func6 rfl (by kernel_rfl) Try.ntmps6 rfl (Owns.nil w) ?_
  refine XC.rdv (hr _) fun ao m hva _ _ haa => ?_
  subst hva
  refine go (k := ?_)
  refine XL.box rfl rfl rfl fun b2 => ?_
  refine go (k := ?_)
  refine XC.loop (α := Nat) (fun k => [(1, .slice ao acts.length m), (2, ptr b2), (5, .int .i64 k)]) (fun _ => [.blk b2 ((List.range 8).map fun i => str (tx i)) 51])
    (fun k => k ≤ 8 ∧ ∀ i, i < k → (tx i).length ≤ 300) (fun k => 8 - k) 0 [0] ⟨Nat.zero_le _, fun _ h => by omega⟩ ⟨rfl, rfl, rfl, trivial⟩ rfl rfl ?_
  intro k ⟨hk, hsm⟩
  by_cases hk8 : k < 8
  · have hat := htx k hk8
    have := ht k
    by_cases hlen : 300 < (tx k).length
    · refine go (k := ?_)
      refine XL.q (.call rfl rfl fun _ w _ => awake3_ok w) rfl ?_
      refine go (k := ?_)
      exact XE.ret1 () [] rfl rfl trivial rfl rfl rfl
    · refine go (k := ?_)
      exact XE.mid (k + 1) [0] ⟨⟨by omega, fun i hi => by by_cases h : i = k; · rw [h]; omega
                                                          · exact hsm i (by omega)⟩, by omega⟩ ⟨rfl, rfl, rfl, trivial⟩ rfl rfl
  obtain rfl : k = 8 := by omega
  refine go (k := ?_)
  refine XL.call [] [0] rfl rfl rfl rfl rfl (fun _ w _ _ => new_ok w) fun b _ => ?_
  refine go (k := ?_)
  refine XL.q (.call rfl rfl fun _ w' hs' => few_ok _ acts w' (hr _ w' hs'.own hs'.kept) (by simp only [maxLen] at hl; omega) (fun a ha => by have := (hs a ha).1; simp only [maxLen] at this; omega)) rfl ?_
  cases hfew : fewB acts with
  | false =>
    refine go (k := ?_)
    refine XL.q (.call rfl rfl fun _ w _ => awake3_ok w) rfl ?_
    refine go (k := ?_)
    exact XE.ret1 () [] rfl rfl trivial rfl rfl rfl
  | true =>
  have hfew' : (∀ a ∈ acts, a.s.length ≤ 300) ∧ acts.length ≤ 100 := by
    simp only [fewB, Bool.and_eq_true, List.all_eq_true, decide_eq_true_eq] at hfew
    refine ⟨fun a ha => hfew.1 a ?_, hfew.2⟩
    rw [List.take_of_length_le (by omega)]; exact ha
  obtain ⟨bk, hbk⟩ : ∃ bk : Int → Nat, bk = fun x => bucket (tx (x % 8).toNat) := ⟨_, rfl⟩
  have hbkl : ∀ x, bk x < 16 := fun x => by rw [hbk]; exact bucket_lt _
  refine go (k := ?_)
  refine XC.addNil 35 1 ?_
  refine XC.loop (α := Nat × Ixs × Value × List Int) (fun x => [(1, .slice ao acts.length m), (2, ptr b2), (6, ptr b), (7, x.2.2.1), (8, .int .i64 x.1)])
    (fun x => [ixE b x.2.1, .sl x.2.2.1 35 1 (uvs x.2.2.2), .blk b2 ((List.range 8).map fun i => str (tx i)) 51])
    (fun x => x.1 ≤ acts.length ∧ FRel bk x.2.1 x.2.2.2 ∧ x.2.2.2.length ≤ x.1) (fun x => acts.length - x.1) (0, ps0, .slice none 0 0, []) [1, 0, 2] ⟨Nat.zero_le _, ⟨HRel.new, fun _ h => by cases h⟩, Nat.le_refl _⟩ ⟨rfl, rfl, rfl, rfl, rfl, trivial⟩ rfl rfl ?_
  rintro ⟨k, ps, vi, il⟩ ⟨hk, hR, hil⟩
  simp only at hk hR hil ⊢
  by_cases hkl : k < acts.length
  · obtain ⟨a, ha⟩ : ∃ x, acts[k]? = some x := ⟨_, List.getElem?_eq_getElem hkl⟩
    obtain ⟨b1, o1, rfl⟩ : ∃ b off, ao = some ⟨b, off, none⟩ := haa.resolve_left (by omega)
    obtain ⟨h1, h2, h3⟩ := acells_at ha
    obtain ⟨hs1, hs2, hs3⟩ := hs a (List.mem_of_getElem? ha)
    obtain ⟨x, hx⟩ : ∃ x : Nat, a.id % 200 = x := ⟨(a.id % 200).toNat, by omega⟩
    have hx8 : x % 8 < 8 := Nat.mod_lt _ (by decide)
    have hbx : bk x = bucket (tx (x % 8)) := by rw [hbk]; simp only; rw [show ((x : Int) % 8).toNat = x % 8 by omega]
    have htl := hsm _ hx8
    have hat := htx _ hx8
    obtain ⟨vj, hvj⟩ := hR.at_ (bk x) (hbkl x)
    have hfl : (il.filter fun y => bk y = bk x).length ≤ il.length := List.length_filter_le _ _
    refine XC.slv (.tail _ (.head _)) fun ai q mi hv hq _ => ?_
    subst hv
    obtain rfl : q = il.length := by simpa using hq
    refine go (k := ?_)
    refine XL.q (.ldRd (j := k * 3 + 2) rfl rfl rfl (hr _) (by omega) h3) rfl ?_
    refine go (k := ?_)
    rw [hx]
    refine go (k := ?_)
    rw [show ((x : Int) % 8) = ((x % 8 : Nat) : Int) from by omega]
    refine go (k := ?_)
    refine XL.q (.call rfl rfl fun _ w hs => place_ok _ il x w ((hs.own.ok _ (.tail _ (.head _))).rowAt (by decide) (by simp)) (by omega)) rfl ?_
    refine go (k := ?_)
    refine XL.q (.ldRd (j := k * 3) rfl rfl rfl (hr _) (by omega) h1) rfl ?_
    have hmem : (x : Int) ∈ (il.filter fun y => bk y = bk x) ↔ (x : Int) ∈ il := by simp
    by_cases w0 : a.what % 3 = 0
    · refine go (k := ?_)
      by_cases hin : (x : Int) ∈ il
      · have hidx : ¬ idxOf (x : Int) il < 0 := fun h => (idxOf_neg.1 h) hin
        refine XL.call [0] [1, 2] rfl rfl rfl rfl rfl (fun _ w _ ho => add_there b ps (tx (x % 8)) x vj _ w (by omega) (by rw [← hbx]; exact hvj) (by omega) (hmem.2 hin) ho) fun _ _ => ?_
        refine go (k := ?_)
        refine XC.condF rfl (by simp [hidx]) ?_
        refine go (k := ?_)
        exact XE.mid (k + 1, ps, .slice ai il.length mi, il) [0, 1, 2] ⟨⟨by simp only; omega, hR, by simp only; omega⟩, by simp only; omega⟩ ⟨rfl, rfl, rfl, rfl, rfl, trivial⟩ rfl rfl
      · have hidx : idxOf (x : Int) il < 0 := idxOf_neg.2 hin
        refine XL.call [0] [1, 2] rfl rfl rfl rfl rfl (fun _ w _ ho => add_new b ps (tx (x % 8)) x vj _ w (by omega) (by rw [← hbx]; exact hvj) (by omega) (fun h => hin (hmem.1 h)) ho) fun v1 _ => ?_
        refine go (k := ?_)
        refine XC.condF rfl (by simp [hidx]) ?_
        refine go (k := ?_)
        refine XL.make (.bslice rfl rfl rfl rfl rfl rfl) rfl fun _ _ hb => ?_
        obtain ⟨bs, rfl, rfl⟩ := hb
        refine XL.app (m := 1) (news := [uv x]) (L' := fun v'' => _ :: _ :: .sl v'' 35 1 (uvs il ++ [uv x]) :: _) rfl rfl rfl rfl rfl rfl (by decide) (.tail _ (.tail _ (.head _)))
          (.blk (.head _) rfl (Nat.le_refl _) rfl) rfl (by simp only [uvs_len, List.length_singleton]; omega) (by simp only [uvs_len, List.length_singleton]; omega) (fun v'' => .there (.there .here)) rfl fun v'' => ?_
        rw [show uvs il ++ [uv (x : Int)] = uvs (il ++ [(x : Int)]) from (uvs_app il [(x : Int)]).symm]
        refine go (k := ?_)
        have hadd := hR.rel.add (hbkl x) v1 (x : Int)
        rw [ofB_map] at hadd
        rw [← hbx]
        refine XE.mid (k + 1, _, v'', il ++ [(x : Int)]) [1, 2, 3] ⟨⟨by simp only; omega, ⟨?_, fun y hy => ?_⟩, by simp; omega⟩, by simp only; omega⟩ ⟨rfl, rfl, rfl, rfl, rfl, trivial⟩ rfl rfl
        · rw [List.map_append]; exact hadd
        · rcases List.mem_append.1 hy with hy | hy
          · exact hR.small y hy
          · rw [List.mem_singleton.1 hy]; omega
    by_cases w1 : a.what % 3 = 1
    · refine go (k := ?_)
      by_cases hin : (x : Int) ∈ il
      · obtain ⟨i, hi⟩ := idxOf_mem hin
        obtain ⟨i', hi'⟩ := idxOf_mem (hmem.2 hin)
        have hil' := idxOf_lt (x : Int) il
        rw [hi] at hil' ⊢
        refine XL.call [0] [1, 2] rfl rfl rfl rfl rfl (fun _ w _ ho => drop_there b ps (tx (x % 8)) x vj _ i' w (by omega) (by rw [← hbx]; exact hvj) (by omega) hi' ho) fun v1 _ => ?_
        refine XL.openSl (m := il.length) (.tail _ (.head _)) (by decide) (by simp) (by omega) (fun _ _ => .there .here) fun bi cs cap hv' hc hcl hct => ?_
        cases hv'
        refine go (k := ?_)
        refine XD.q (.cutX (l := 0) (h := i) (q := i) rfl (.inr ⟨rfl, rfl⟩) (.inl ⟨_, _, rfl, rfl⟩) (.inl ⟨_, _, rfl, rfl⟩) rfl rfl (by omega) (by omega) (by omega)) rfl ?_
        refine go (k := ?_)
        refine XD.q (.cutX (l := i + 1) (h := il.length) (q := mi) rfl (.inl ⟨_, _, rfl, rfl⟩) (.inr ⟨rfl, rfl, rfl⟩) (.inr ⟨rfl, rfl⟩) rfl rfl (by omega) (by omega) (by omega)) rfl ?_
        refine go (k := ?_)
        have e0 : cutAt bi 0 1 i 0 = ⟨bi, 0, none⟩ := by unfold cutAt; split <;> rfl
        rw [e0, Nat.sub_zero]
        have herase : uvs (il.eraseIdx i) = uvs (il.take i) ++ uvs (il.drop (i + 1)) := by rw [List.eraseIdx_eq_take_drop_succ, uvs_app]
        have hlen := List.length_eraseIdx_of_lt (l := il) (i := i) (by omega)
        have hdrop := hR.rel.drop (hbkl x) v1 (x : Int) (i := i) (i' := i') (by rw [idxOf_map]; exact hi) (by rw [ofB_map]; exact hi')
        rw [ofB_map, erase_map] at hdrop
        have hR2 : FRel bk (ps.set (bk x) (v1, (il.filter fun y => bk y = bk x).eraseIdx i')) (il.eraseIdx i) := ⟨hdrop, fun y hy => hR.small y ((List.eraseIdx_sublist il i).mem hy)⟩
        rw [← hbx]
        have hxl : (uvs il).length = il.length := by simp
        have hcsl : il.length ≤ cs.length := by have := congrArg List.length hct; simp only [List.length_take] at this; omega
        by_cases hlast : i + 1 = il.length
        · have hd0 : il.drop (i + 1) = [] := List.drop_of_length_le (by omega)
          have hz : il.length - (i + 1) = 0 := by omega
          rw [hz]
          refine XL.appRoom (m := 0) (news := []) (cs' := cs) rfl rfl rfl rfl rfl (.tail _ (.head _)) .empty rfl (Nat.le_refl _) ⟨?_, ?_⟩ (.there .here) rfl ?_
          · simp; omega
          · simp
          refine go (k := ?_)
          have htk : (uvs (il.eraseIdx i)).length = i := by rw [uvs_len, hlen]; omega
          refine XE.shutSl (m := i) (cap := i) (k := 1) (xs := uvs (il.eraseIdx i)) (.tail _ (.head _)) (by rw [htk, Nat.mul_one]) (Nat.le_refl _) (by omega) ?_ (.there .here) ?_
          · rw [htk, herase, hd0]
            have := congrArg (List.take i) hct
            rw [List.take_take, Nat.min_eq_left (by omega)] at this
            rw [this]; simp [uvs, List.map_take]
          exact XE.mid (k + 1, _, .slice (some ⟨bi, 0, none⟩) i i, il.eraseIdx i) [0, 1, 2] ⟨⟨by simp only; omega, hR2, by simp only; omega⟩, by simp only; omega⟩ ⟨rfl, rfl, rfl, rfl, rfl, trivial⟩ rfl rfl
        · have htl2 : (uvs (il.take i)).length = i := by rw [uvs_len, List.length_take]; omega
          have hdl : (uvs (il.drop (i + 1))).length = il.length - (i + 1) := by rw [uvs_len, List.length_drop]
          refine XL.make (.grow (xs := uvs (il.take i)) (news := uvs (il.drop (i + 1))) rfl rfl rfl rfl rfl rfl (by decide)
            (.blk (.tail _ (.head _)) (by rw [htl2, Nat.mul_one]) (Nat.le_refl _) ?_) (.cut (.tail _ (.head _)) (by rw [hdl, Nat.mul_one]) (by omega) (by omega) ?_) (uvs_one _) (by omega) (by rw [htl2, hdl]; omega) (by rw [htl2, hdl]; omega)) rfl fun v'' H hv'' => ?_
          · rw [cut_some (by rw [htl2]; omega), htl2, List.drop_zero]
            congr 1
            have := congrArg (List.take i) hct
            rw [List.take_take, Nat.min_eq_left (by omega)] at this
            rw [this]; simp [uvs, List.map_take]
          · rw [cut_some (by rw [hdl]; omega), hdl]
            congr 1
            have := congrArg (List.drop (i + 1)) hct
            rw [List.drop_take, hxl] at this
            rw [show 0 + (i + 1) * 1 = i + 1 by omega, this]; simp [uvs, List.map_drop]
          subst hv''
          rw [← herase]
          refine go (k := ?_)
          exact XE.mid (k + 1, _, v'', il.eraseIdx i) [1, 0, 3] ⟨⟨by simp only; omega, hR2, by simp only; omega⟩, by simp only; omega⟩ ⟨rfl, rfl, rfl, rfl, rfl, trivial⟩ rfl rfl
      · have hidx : ¬ 0 ≤ idxOf (x : Int) il := by have := (idxOf_neg (x := (x : Int)) (l := il)).2 hin; omega
        refine XL.call [0] [1, 2] rfl rfl rfl rfl rfl (fun _ w _ ho => drop_none b ps (tx (x % 8)) x vj _ w (by omega) (by rw [← hbx]; exact hvj) (by omega) (fun h => hin (hmem.1 h)) ho) fun _ _ => ?_
        refine go (k := ?_)
        refine XC.condF rfl (by simp [hidx]) ?_
        refine go (k := ?_)
        exact XE.mid (k + 1, ps, .slice ai il.length mi, il) [0, 1, 2] ⟨⟨by simp only; omega, hR, by simp only; omega⟩, by simp only; omega⟩ ⟨rfl, rfl, rfl, rfl, rfl, trivial⟩ rfl rfl
    · refine go (k := ?_)
      exact XE.mid (k + 1, ps, .slice ai il.length mi, il) [0, 1, 2] ⟨⟨by simp only; omega, hR, by simp only; omega⟩, by simp only; omega⟩ ⟨rfl, rfl, rfl, rfl, rfl, trivial⟩ rfl rfl
  · refine go (k := ?_)
    refine XC.loop (α := Nat) (fun k => [(2, ptr b2), (6, ptr b), (7, vi), (12, .int .i64 k)])
      (fun _ => [ixE b ps, .sl vi 35 1 (uvs il), .blk b2 ((List.range 8).map fun i => str (tx i)) 51]) (fun k => k ≤ 8) (fun k => 8 - k) 0 [0, 1, 2] (Nat.zero_le _) ⟨rfl, rfl, rfl, rfl, trivial⟩ rfl rfl ?_
    intro j hj
    by_cases hj8 : j < 8
    · have hatj := htx j hj8
      have htj := hsm j hj8
      obtain ⟨vj, hvj⟩ := hR.at_ (bucket (tx j)) (bucket_lt _)
      have hfl : (il.filter fun y => bk y = bucket (tx j)).length ≤ il.length := List.length_filter_le _ _
      refine XC.slv (.tail _ (.head _)) fun ai q mi hv hq _ => ?_
      subst hv
      obtain rfl : q = il.length := by simpa using hq
      refine go (k := ?_)
      refine XC.addNil 35 1 ?_
      refine XC.loop (α := Nat × Value) (fun x => [(2, ptr b2), (6, ptr b), (7, .slice ai il.length mi), (12, .int .i64 j), (13, x.2), (14, .int .i64 x.1)])
        (fun x => [.sl x.2 35 1 (uvs ((il.take x.1).filter fun y => bk y = bucket (tx j))), ixE b ps, .sl (.slice ai il.length mi) 35 1 (uvs il), .blk b2 ((List.range 8).map fun i => str (tx i)) 51])
        (fun x => x.1 ≤ il.length) (fun x => il.length - x.1) (0, .slice none 0 0) [0, 1, 2, 3] (Nat.zero_le _) ⟨rfl, rfl, rfl, rfl, rfl, rfl, trivial⟩ rfl rfl ?_
      rintro ⟨i, vw⟩ hi
      simp only at hi ⊢
      by_cases hil' : i < il.length
      · obtain ⟨y, hy⟩ : ∃ y, il[i]? = some y := ⟨_, List.getElem?_eq_getElem hil'⟩
        have hys := hR.small y (List.mem_of_getElem? hy)
        obtain ⟨yn, rfl⟩ : ∃ yn : Nat, y = yn := ⟨y.toNat, by omega⟩
        have hy8 : yn % 8 < 8 := Nat.mod_lt _ (by decide)
        have haty := htx _ hy8
        have hty := hsm _ hy8
        have hby : bk yn = bucket (tx (yn % 8)) := by rw [hbk]; simp only; rw [show ((yn : Int) % 8).toNat = yn % 8 by omega]
        have hrd : Rd w (ids []) [.sl vw 35 1 (uvs ((il.take i).filter fun y => bk y = bucket (tx j))), ixE b ps, .sl (.slice ai il.length mi) 35 1 (uvs il), .blk b2 ((List.range 8).map fun i => str (tx i)) 51] (.slice ai il.length mi) 1 il.length (uvs il) := .sl (.tail _ (.tail _ (.head _))) (by decide) (by simp)
        refine XC.rdv hrd fun ao' m' hv' _ _ hai => ?_
        cases hv'
        obtain ⟨b3, o3, rfl⟩ : ∃ b off, ai = some ⟨b, off, none⟩ := hai.resolve_left (by omega)
        have hv3 : (uvs il)[i * 1]? = some (uv yn) := by simp [uvs, hy]
        have hfl2 : ((il.take i).filter fun y => bk y = bucket (tx j)).length ≤ il.length := Nat.le_trans (List.length_filter_le _ _) (by rw [List.length_take]; omega)
        have hsn : (il.take (i + 1)).filter (fun y => bk y = bucket (tx j)) = if bk yn = bucket (tx j) then (il.take i).filter (fun y => bk y = bucket (tx j)) ++ [(yn : Int)] else (il.take i).filter (fun y => bk y = bucket (tx j)) := by
          rw [htake_snoc hy, List.filter_append]
          by_cases h : bk yn = bucket (tx j) <;> simp [h]
        refine go (k := ?_)
        refine XD.q (.ldRd rfl rfl rfl hrd (by omega) hv3) rfl ?_
        refine go (k := ?_)
        rw [show ((yn : Int) % 8) = ((yn % 8 : Nat) : Int) from by omega]
        refine go (k := ?_)
        refine XD.q (.call rfl rfl fun _ w _ => hbucket_ok (tx (yn % 8)) (by omega) w) rfl ?_
        refine go (k := ?_)
        refine XL.q (.call rfl rfl fun _ w _ => hbucket_ok (tx j) (by omega) w) rfl ?_
        by_cases hbb : ((bucket (tx (yn % 8)) : Nat) : Int) = (bucket (tx j) : Nat)
        · have hbb' : bk yn = bucket (tx j) := by omega
          rw [if_pos hbb'] at hsn
          refine go (k := ?_)
          refine XL.q (.ldRd rfl rfl rfl hrd (by omega) hv3) rfl ?_
          refine go (k := ?_)
          refine XL.make (.bslice rfl rfl rfl rfl rfl rfl) rfl fun _ _ hb => ?_
          obtain ⟨bs, rfl, rfl⟩ := hb
          refine XL.app (m := 1) (news := [uv yn]) (L' := fun v'' => _ :: .sl v'' 35 1 (uvs ((il.take i).filter fun y => bk y = bucket (tx j)) ++ [uv yn]) :: _) rfl rfl rfl rfl rfl rfl (by decide) (.tail _ (.head _))
            (.blk (.head _) rfl (Nat.le_refl _) rfl) rfl (by simp only [uvs_len, List.length_singleton]; omega) (by simp only [uvs_len, List.length_singleton]; omega) (fun v'' => .there .here) rfl fun v'' => ?_
          rw [show uvs ((il.take i).filter fun y => bk y = bucket (tx j)) ++ [uv (yn : Int)] = uvs ((il.take (i + 1)).filter fun y => bk y = bucket (tx j)) from by rw [hsn, uvs_app]; rfl]
          refine go (k := ?_)
          exact XE.mid (i + 1, v'') [1, 2, 3, 4] ⟨by simp only; omega, by simp only; omega⟩ ⟨rfl, rfl, rfl, rfl, rfl, rfl, trivial⟩ rfl rfl
        · have hbb' : ¬ bk yn = bucket (tx j) := by omega
          rw [if_neg hbb'] at hsn
          refine go (k := ?_)
          refine XE.mid (i + 1, vw) [0, 1, 2, 3] ⟨by simp only; omega, by simp only; omega⟩ ⟨rfl, rfl, rfl, rfl, rfl, rfl, trivial⟩ rfl ?_
          simp only [hsn]; rfl
      · obtain rfl : i = il.length := by omega
        rw [List.take_length]
        refine go (k := ?_)
        refine XL.call [1, 0] [2, 3] rfl rfl rfl rfl rfl (fun _ w _ ho => finds_ok b ps (tx j) vj (il.filter fun y => bk y = bucket (tx j)) (il.filter fun y => bk y = bucket (tx j)) vw _ w (by omega) hvj (by omega) (fun w B => .sl (.head _) (by decide) (by rw [uvs_len, Nat.mul_one])) ho) fun _ _ => ?_
        rw [decide_eq_true rfl]
        refine go (k := ?_)
        exact XE.mid (j + 1) [0, 2, 3] ⟨by omega, by omega⟩ ⟨rfl, rfl, rfl, rfl, trivial⟩ rfl rfl
    · obtain rfl : j = 8 := by omega
      refine go (k := ?_)
      have hitl : (itemsFrom ps 0).length = il.length := by rw [hR.rel.len, List.length_map]
      refine XL.slv (.tail _ (.head _)) fun ai q mi hv hq _ => ?_
      subst hv
      obtain rfl : q = il.length := by simpa using hq
      refine XL.alloc rfl rfl rfl fun b15 => ?_
      refine go (k := ?_)
      refine XL.call [] [0, 1, 2, 3] rfl rfl rfl rfl rfl (fun _ w _ _ => all_ok (ptr b) rfl w) fun bx _ => ?_
      refine go (k := ?_)
      refine XC.rangeFunc (α := Nat) (β := Unit) (H := fun c => [.blk b15 [.int .i64 c] 3, .sl (.slice ai il.length mi) 35 1 (uvs il)])
        (φ := fun k c => c = k ∧ k ≤ 2) (Z := fun _ => [.blk bx [ptr b] 28, ixE b ps, .blk b15 [.int .i64 (3 : Nat)] 3, .sl (.slice ai il.length mi) 35 1 (uvs il)]) (ψ := fun _ => 3 ≤ il.length) (jmp := fun _ => .exit 9) 0 [0, 2, 1, 3]
        (fun vs => zipE [144, 145] vs [(15, ptr b15)]) rfl (all_seq bx b ps hR.rel.n (hR.rel.small (N := 1000000) (by rw [List.length_map]; omega))) ⟨rfl, by decide⟩ rfl rfl ?_ rfl ?_ ?_ ?_ ?_
      · intro k vs hvs
        obtain ⟨j, id, rfl, _⟩ := items_form ps 0 k vs hvs
        rfl
      · intro l k vs w L' hvs
        obtain ⟨j, id, rfl, _⟩ := items_form ps 0 k vs hvs
        refine go (k := ?_)
        exact XE.midI () trivial ⟨rfl, rfl, rfl, trivial⟩ rfl
      · rintro l k vs c w hvs ⟨rfl, hc⟩ _
        obtain ⟨j, id, rfl, _⟩ := items_form ps 0 c vs hvs
        have hkl := (List.getElem?_eq_some_iff.1 hvs).1
        rw [hitl] at hkl
        by_cases hc2 : c = 2
        · subst hc2
          refine go (k := ?_)
          exact XE.outExit () [0, 1, 2, 3] (by omega) rfl rfl rfl
        · refine go (k := ?_)
          exact XE.round (c + 1) [0, 1, 2, 3] ⟨rfl, by omega⟩ rfl rfl
      · rintro D c ⟨hc, hc2⟩
        have hmin : min 3 il.length = c := by omega
        refine go (k := ?_)
        refine XL.call [2] [0, 1, 3, 4] rfl rfl rfl rfl rfl (fun _ w _ ho => len_ok b ps w hR.rel.n (hR.rel.small (N := 1000000) (by rw [List.length_map]; omega)) (by rw [hitl]; omega) ho) fun _ _ => ?_
        rw [hitl]
        refine go (k := ?_)
        refine XL.q (.call rfl rfl fun _ w _ => awake3_ok w) rfl ?_
        refine go (k := ?_)
        refine XE.mark (.inl rfl) (.there .here) ?_
        exact XE.ret1 () [] rfl rfl trivial rfl rfl rfl
      · intro D y hy
        have hmin : min 3 il.length = 3 := by omega
        refine go (k := ?_)
        refine XL.call [2] [0, 1, 3, 4] rfl rfl rfl rfl rfl (fun _ w _ ho => len_ok b ps w hR.rel.n (hR.rel.small (N := 1000000) (by rw [List.length_map]; omega)) (by rw [hitl]; omega) ho) fun _ _ => ?_
        rw [hitl]
        refine go (k := ?_)
        refine XL.q (.call rfl rfl fun _ w _ => awake3_ok w) rfl ?_
        refine go (k := ?_)
        refine XE.mark (.inl rfl) (.there .here) ?_
        exact XE.ret1 () [] rfl rfl trivial rfl rfl rfl
end Go.X
