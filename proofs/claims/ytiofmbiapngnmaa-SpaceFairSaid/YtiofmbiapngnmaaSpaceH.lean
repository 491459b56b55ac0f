/- SpacePlays. -/
import Derived.Test.YtiofmbiapngnmaaSpaceG
import Derived.Test.YtiofmbiapngnmaaRows2
namespace Go.X
open Go Go.Proofs Go.RowKit
set_option maxHeartbeats 1000000 in
theorem spacePlays_ok (b0 b1 : Int) (us : List Int) (acts : List SAct) (vu va : Value) (w : World) (hb0 : -9223372036854775808 ≤ b0 ∧ b0 ≤ 9223372036854775807) (hb1 : -9223372036854775808 ≤ b1 ∧ b1 ≤ 9223372036854775807)
    (hu : RowAt w vu 1 us.length (ivs us)) (hul : us.length ≤ maxLen) (hv : RowAt w va 2 acts.length (scells acts)) (hl : acts.length ≤ maxLen) (hs : ∀ a ∈ acts, 0 ≤ a.what ∧ a.what ≤ 255) :
    Fx Try.prog 4 [.agg #[iv b0, iv b1], vu, va] w (Pure w (.bool true)) := by
  have hru : ∀ L : Heap, Rd w (ids []) L vu 1 us.length (ivs us) := fun L => .old hu (fun _ _ _ => by simp [X.ids])
  have hra : ∀ L : Heap, Rd w (ids []) L va 2 acts.length (scells acts) := fun L => .old hv (fun _ _ _ => by simp [X.ids])
  simp only [maxLen] at hul hl
  refine Fx.of (L0 := []) Try.func4 rfl (by kernel_rfl) Try.ntmps4 rfl (Owns.nil w) ?_
  refine XC.rdv (hru _) fun au mu hvu _ _ hau => ?_
  subst hvu
  refine XC.rdv (hra _) fun ao m hva _ _ haa => ?_
  subst hva
  refine go (k := ?_)
  refine XL.box rfl rfl rfl fun b3 => ?_
  by_cases hus : 60 < us.length
  · refine go (k := ?_)
    refine XL.q (.call rfl rfl fun _ w _ => awake_ok w) rfl ?_
    refine go (k := ?_)
    exact XE.ret1 () [] rfl rfl trivial rfl rfl rfl
  by_cases has : 60 < acts.length
  · refine go (k := ?_)
    refine XL.q (.call rfl rfl fun _ w _ => awake_ok w) rfl ?_
    refine go (k := ?_)
    exact XE.ret1 () [] rfl rfl trivial rfl rfl rfl
  refine go (k := ?_)
  by_cases hmay : 0 ≤ b0 ∧ b0 < b1 ∧ b1 ≤ 2048
  · obtain ⟨f, rfl⟩ : ∃ f : Nat, b0 = f := ⟨b0.toNat, by omega⟩
    obtain ⟨n, rfl⟩ : ∃ n : Nat, b1 = n := ⟨b1.toNat, by omega⟩
    refine XL.call [] [0] rfl rfl rfl rfl rfl (fun _ w hs _ => load_ok f n _ us w (by omega) (by omega) (hru _ w hs.own hs.kept) (by omega)) fun x hx => ?_
    have hsl := sload_inl f n us []
    rw [← zero_inl] at hsl
    cases hrl : rLoad f n [] us with
    | none =>
      rw [hrl] at hsl
      obtain rfl : x = none := by
        rw [hx] at hsl
        cases x with
        | none => rfl
        | some y => cases hsl
      refine XL.nm ?_
      refine go (k := ?_)
      refine XL.call [] [0] rfl rfl rfl rfl rfl (fun _ w hs _ => rload_ok f n _ us w hmay (hru _ w hs.own hs.kept) (by omega)) fun y hy => ?_
      obtain rfl : y = none := by
        obtain ⟨hy, _⟩ := hy
        rw [hrl] at hy
        cases y with
        | none => rfl
        | some y => cases hy
      refine XL.nm ?_
      refine go (k := ?_)
      refine XD.makeY rfl rfl rfl (.call rfl rfl fun _ w _ => snew_ok f n w (by omega) (by omega)) rfl rfl ?_
      refine XD.lookY (s' := 60) (v := .bool false) rfl rfl rfl (.head _) rfl (fun u H ⟨x, _, hu, _⟩ => by subst hu; exact .eqNil (a := some ⟨x.1, 0, none⟩) rfl rfl rfl) rfl ?_
      refine go (k := ?_)
      refine XD.qY (v := .bool true) rfl rfl rfl (.call rfl rfl fun _ w _ => by have h := may_ok f n w; rw [decide_eq_true hmay] at h; exact h) rfl ?_
      refine go (k := ?_)
      refine XD.nilF (by decide +kernel) ?_
      refine go (k := ?_)
      refine XL.q (.call rfl rfl fun _ w _ => awake_ok w) rfl ?_
      refine go (k := ?_)
      exact XE.ret1 () [] rfl rfl trivial rfl rfl rfl
    | some l =>
      rw [hrl] at hsl
      obtain ⟨b, lv, rfl⟩ : ∃ b lv, x = some (b, lv, inl l) := by
        rw [hx] at hsl
        cases x with
        | none => cases hsl
        | some y => exact ⟨y.1, y.2.1, by rw [← Option.some.inj hsl]⟩
      refine XL.nm ?_
      refine go (k := ?_)
      refine XL.call [] [0, 1] rfl rfl rfl rfl rfl (fun _ w hs _ => rload_ok f n _ us w hmay (hru _ w hs.own hs.kept) (by omega)) fun y hy => ?_
      obtain ⟨rb, rv, rfl, hll⟩ : ∃ rb rv, y = some (rb, rv, l) ∧ l.length ≤ us.length := by
        obtain ⟨hy, hy2⟩ := hy
        rw [hrl] at hy
        cases y with
        | none => cases hy
        | some y =>
          have h3 : l = y.2.2 := Option.some.inj hy
          exact ⟨y.1, y.2.1, by rw [h3], by rw [h3]; exact hy2 y rfl⟩
      have hinv := rLoad_inv us (SInv.nil f n) hrl
      refine XL.nm ?_
      refine go (k := ?_)
      refine XD.makeY rfl rfl rfl (.call rfl rfl fun _ w _ => snew_ok f n w (by omega) (by omega)) rfl rfl ?_
      refine XD.lookY (s' := 60) (v := .bool false) rfl rfl rfl (.head _) rfl (fun u H ⟨x, _, hu, _⟩ => by subst hu; exact .eqNil (a := some ⟨x.1, 0, none⟩) rfl rfl rfl) rfl ?_
      refine go (k := ?_)
      refine XD.qY (v := .bool true) rfl rfl rfl (.call rfl rfl fun _ w _ => by have h := may_ok f n w; rw [decide_eq_true hmay] at h; exact h) rfl ?_
      refine go (k := ?_)
      refine XD.nilF (by decide +kernel) ?_
      refine go (k := ?_)
      refine XC.loop (α := Nat × Nat × Value × Nat × Value × List Int) (fun x => [(2, .slice ao acts.length m), (7, ptr x.2.1), (9, ptr x.2.2.2.1), (11, iv x.1)])
        (fun x => spE x.2.1 x.2.2.1 f n (inl x.2.2.2.2.2) :: rsG x.2.2.2.1 x.2.2.2.2.1 f n x.2.2.2.2.2)
        (fun x => x.1 ≤ acts.length ∧ SInv f n x.2.2.2.2.2 ∧ x.2.2.2.2.2.length ≤ 60 + x.1) (fun x => acts.length - x.1) (0, b, lv, rb, rv, l) [2, 0, 1] ⟨Nat.zero_le _, hinv, by simp only; omega⟩ ⟨rfl, rfl, rfl, rfl, trivial⟩ rfl rfl ?_
      clear hsl hrl hx hy hinv hll
      clear l b lv rb rv
      rintro ⟨k, b, lv, rb, rv, l⟩ ⟨hk, hinv, hll⟩
      simp only at hk hinv hll ⊢
      by_cases hkl : k < acts.length
      · obtain ⟨a, ha⟩ : ∃ x, acts[k]? = some x := ⟨_, List.getElem?_eq_getElem hkl⟩
        obtain ⟨b1, o1, rfl⟩ : ∃ b off, ao = some ⟨b, off, none⟩ := haa.resolve_left (by omega)
        obtain ⟨c1, c2⟩ := scells_at ha
        have hcut := scells_cut ha
        have hsa := hs a (List.mem_of_getElem? ha)
        have hl1 := sstep_le f n l a
        have hinv' := hinv.step a
        have hcnt := frees_inl (show f ≤ n by omega) hinv'
        obtain ⟨fb, hfb⟩ : ∃ fb : Bool, fb = (decide ((f : Int) ≤ a.at_) && decide (a.at_ < n) && !decide (a.at_ ∈ sstep f n l a)) := ⟨_, rfl⟩
        have hfe : (decide ((f : Int) ≤ a.at_) && decide (a.at_ < n) && !inl (sstep f n l a) a.at_.toNat) = fb := by
          rw [hfb]
          by_cases h0 : (f : Int) ≤ a.at_
          · unfold inl; rw [Int.toNat_of_nonneg (by omega)]
          · simp [h0]
        refine go (k := ?_)
        refine XL.q (.ldRd (j := k * 2) rfl rfl rfl (hra _) (by omega) c1) rfl ?_
        by_cases w4 : a.what % 5 = 4
        · refine go (k := ?_)
          refine XL.call [] [0, 1, 2] rfl rfl rfl rfl rfl (fun _ w hs _ => copy_ok b lv f n (inl l) w (by omega) (by omega) (hs.own.grp (.head _))) fun x _ => ?_
          obtain ⟨b', lv'⟩ := x
          refine go (k := ?_)
          refine XL.call [] [1, 0, 2, 3] rfl rfl rfl rfl rfl (fun _ w hs _ => rcopy_ok rb rv f n l w (by omega) (hs.own.pick (is := [2, 3]) (by decide))) fun x _ => ?_
          obtain ⟨rb', rv'⟩ := x
          refine go (k := ?_)
          refine XL.call [2] [3, 0, 1] rfl rfl rfl rfl rfl (fun _ w _ ho => take_ok b lv f n (inl l) w (by omega) (by omega) ho) fun _ _ => ?_
          refine XL.nm ?_
          refine XL.drop1 ?_
          refine go (k := ?_)
          refine XD.qY rfl rfl rfl (.ldRdN (j := k * 2) rfl rfl rfl rfl (hra _) (by omega) hcut) rfl ?_
          refine go (k := ?_)
          refine XD.toR (by decide +kernel) (by decide +kernel) (by decide +kernel) ?_
          refine XR.seq (by decide +kernel) ?_
          refine XL.guardY rfl rfl rfl ?_
          refine XL.call [0, 1, 2] [] rfl rfl rfl rfl rfl (fun _ w _ ho => sone_ok b' rb' lv' rv' f n l a w (by omega) (by omega) hinv (by omega) hsa ho) fun rv2 _ => ?_
          refine XL.slv (.tail _ (.tail _ (.head _))) fun ao2 q2 m2 hv2 hq2 _ => ?_
          subst hv2
          obtain rfl : q2 = (sstep f n l a).length := by simpa using hq2
          refine XL.nil (XE.toRk 10 rfl (by decide +kernel) ?_)
          refine XD.run (C := none) (L := spE b' lv' f n (inl (sstep f n l a)) :: rsG rb' (.slice ao2 (sstep f n l a).length m2) f n (sstep f n l a)) ?_
          refine go (k := ?_)
          refine XD.qY rfl rfl rfl (.ldRd (j := k * 2 + 1) rfl rfl rfl (hra _) (by omega) c2) rfl ?_
          refine go (k := ?_)
          refine XD.qY (v := .bool fb) rfl rfl rfl (.call rfl rfl fun _ w hs => by
            have h := free_ok b' lv' f n (inl (sstep f n l a)) a.at_ w (by omega) (by omega) (hs.own.grp (.head _))
            rw [hfe] at h; exact h) rfl ?_
          refine go (k := ?_)
          refine XD.qY rfl rfl rfl (.ldRd (j := k * 2 + 1) rfl rfl rfl (hra _) (by omega) c2) rfl ?_
          refine go (k := ?_)
          refine XD.qY (v := .bool fb) rfl rfl rfl (.call rfl rfl fun _ w hs => by
            have h := rfree_ok rb' _ f n (sstep f n l a) a.at_ w (by omega) (hs.own.pick (is := [1, 2]) (by decide))
            rw [← hfb] at h; exact h) rfl ?_
          refine go1 (k := ?_)
          refine go1 (k := ?_)
          refine go1 (k := ?_)
          refine XD.toR (by decide +kernel) (by decide +kernel) (by decide +kernel) ?_
          refine XD.run (C := some [spE b' lv' f n (inl (sstep f n l a))]) (L := rsG rb' (.slice ao2 (sstep f n l a).length m2) f n (sstep f n l a)) ?_
          refine go (k := ?_)
          refine XD.mutY rfl rfl (by simp) (.call rfl rfl fun _ w _ ho => count_ok b' lv' f n _ w (by omega) (by omega) ho) rfl rfl ?_
          refine go (k := ?_)
          refine XD.lookY (s' := 123) rfl rfl (by simp) (.head _) rfl (fun u H ⟨x, _, hu, _⟩ => by subst hu; exact .neq rfl rfl) rfl ?_
          refine go (k := ?_)
          refine XD.toR (by decide +kernel) (by decide +kernel) (by decide +kernel) ?_
          rintro v H ⟨_, _, rfl, rfl⟩
          refine XR.nil ?_
          refine go (k := ?_)
          exact XE.mid (k + 1, b', lv', rb', .slice ao2 (sstep f n l a).length m2, sstep f n l a) [0, 1, 2] ⟨⟨by simp only; omega, hinv', by simp only; omega⟩, by simp only; omega⟩ ⟨rfl, rfl, rfl, rfl, trivial⟩ rfl rfl
        · refine go (k := ?_)
          refine XD.qY rfl rfl rfl (.ldRdN (j := k * 2) rfl rfl rfl rfl (hra _) (by omega) hcut) rfl ?_
          refine go (k := ?_)
          refine XD.toR (by decide +kernel) (by decide +kernel) (by decide +kernel) ?_
          refine XR.seq (by decide +kernel) ?_
          refine XL.guardY rfl rfl rfl ?_
          refine XL.call [0, 1, 2] [] rfl rfl rfl rfl rfl (fun _ w _ ho => sone_ok b rb lv rv f n l a w (by omega) (by omega) hinv (by omega) hsa ho) fun rv2 _ => ?_
          refine XL.slv (.tail _ (.tail _ (.head _))) fun ao2 q2 m2 hv2 hq2 _ => ?_
          subst hv2
          obtain rfl : q2 = (sstep f n l a).length := by simpa using hq2
          refine XL.nil (XE.toRk 10 rfl (by decide +kernel) ?_)
          refine XD.run (C := none) (L := spE b lv f n (inl (sstep f n l a)) :: rsG rb (.slice ao2 (sstep f n l a).length m2) f n (sstep f n l a)) ?_
          refine go (k := ?_)
          refine XD.qY rfl rfl rfl (.ldRd (j := k * 2 + 1) rfl rfl rfl (hra _) (by omega) c2) rfl ?_
          refine go (k := ?_)
          refine XD.qY (v := .bool fb) rfl rfl rfl (.call rfl rfl fun _ w hs => by
            have h := free_ok b lv f n (inl (sstep f n l a)) a.at_ w (by omega) (by omega) (hs.own.grp (.head _))
            rw [hfe] at h; exact h) rfl ?_
          refine go (k := ?_)
          refine XD.qY rfl rfl rfl (.ldRd (j := k * 2 + 1) rfl rfl rfl (hra _) (by omega) c2) rfl ?_
          refine go (k := ?_)
          refine XD.qY (v := .bool fb) rfl rfl rfl (.call rfl rfl fun _ w hs => by
            have h := rfree_ok rb _ f n (sstep f n l a) a.at_ w (by omega) (hs.own.pick (is := [1, 2]) (by decide))
            rw [← hfb] at h; exact h) rfl ?_
          refine go1 (k := ?_)
          refine go1 (k := ?_)
          refine go1 (k := ?_)
          refine XD.toR (by decide +kernel) (by decide +kernel) (by decide +kernel) ?_
          refine XD.run (C := some [spE b lv f n (inl (sstep f n l a))]) (L := rsG rb (.slice ao2 (sstep f n l a).length m2) f n (sstep f n l a)) ?_
          refine go (k := ?_)
          refine XD.mutY rfl rfl (by simp) (.call rfl rfl fun _ w _ ho => count_ok b lv f n _ w (by omega) (by omega) ho) rfl rfl ?_
          refine go (k := ?_)
          refine XD.lookY (s' := 123) rfl rfl (by simp) (.head _) rfl (fun u H ⟨x, _, hu, _⟩ => by subst hu; exact .neq rfl rfl) rfl ?_
          refine go (k := ?_)
          refine XD.toR (by decide +kernel) (by decide +kernel) (by decide +kernel) ?_
          rintro v H ⟨_, _, rfl, rfl⟩
          refine XR.nil ?_
          refine go (k := ?_)
          exact XE.mid (k + 1, b, lv, rb, .slice ao2 (sstep f n l a).length m2, sstep f n l a) [0, 1, 2] ⟨⟨by simp only; omega, hinv', by simp only; omega⟩, by simp only; omega⟩ ⟨rfl, rfl, rfl, rfl, trivial⟩ rfl rfl
      · refine go (k := ?_)
        refine XL.alloc rfl rfl rfl fun b13 => ?_
        refine go (k := ?_)
        refine XL.call [] [0, 1, 2, 3] rfl rfl rfl rfl rfl (fun _ w _ _ => sall_ok (ptr b) rfl w) fun bx _ => ?_
        refine go (k := ?_)
        refine XC.addNil 3 1 ?_
        have hfl := frees_len (inl l) f n
        obtain ⟨fs, hfs⟩ : ∃ fs, frees f n (inl l) = fs := ⟨_, rfl⟩
        refine XC.rangeFunc (α := Value × List Int) (β := Empty) (H := fun x => [.blk b13 [x.1] 27, .sl x.1 3 1 (ivs x.2)] ++ rsG rb rv f n l)
          (φ := fun k x => x.2 = ((frees f n (inl l)).take k).map Int.ofNat) (Z := fun _ => []) (ψ := fun _ => False) (jmp := fun _ => .ret) (.slice none 0 0, []) [1, 3, 2, 0, 4, 5]
          (fun vs => zipE [15] vs [(9, ptr rb), (13, ptr b13)]) rfl (sall_seq bx b lv f n (inl l) (by omega) (by omega)) rfl rfl rfl ?_ rfl ?_ ?_ ?_ (fun _ y => y.elim)
        · intro k vs hvs
          obtain ⟨j, rfl, _⟩ := sitems_form hvs
          rfl
        · intro l k vs w L' hvs
          obtain ⟨j, rfl, _⟩ := sitems_form hvs
          refine go (k := ?_)
          exact XE.midI () trivial ⟨rfl, rfl, rfl, trivial⟩ rfl
        · rintro l' k vs ⟨vg, gl⟩ w hvs hgl _
          simp only at hgl ⊢
          obtain ⟨j, rfl, hj⟩ := sitems_form hvs
          have hgll : gl.length ≤ n := by rw [hgl, List.length_map, List.length_take]; omega
          refine go (k := ?_)
          refine XL.make (.bslice rfl rfl rfl rfl rfl rfl) rfl fun _ _ hb => ?_
          obtain ⟨bs, rfl, rfl⟩ := hb
          refine XL.app (m := 1) (news := [iv j]) (L' := fun v'' => _ :: _ :: _ :: _ :: .sl v'' 3 1 (ivs gl ++ [iv j]) :: _) rfl rfl rfl rfl rfl rfl (by decide) (.tail _ (.tail _ (.tail _ (.tail _ (.head _)))))
            (.blk (.head _) rfl (Nat.le_refl _) rfl) rfl (by simp only [ivs_len, List.length_singleton]; omega) (by simp only [ivs_len, List.length_singleton]; omega) (fun v'' => .there (.there (.there (.there .here)))) rfl fun v'' => ?_
          rw [show ivs gl ++ [iv (j : Int)] = ivs (gl ++ [(j : Int)]) from (ivs_app gl [(j : Int)]).symm]
          refine XL.slv (.tail _ (.tail _ (.tail _ (.tail _ (.head _))))) fun ao q m hv _ _ => ?_
          subst hv
          refine go (k := ?_)
          refine XE.round (.slice ao q m, gl ++ [(j : Int)]) [1, 2, 3, 4, 5, 6] ?_ rfl rfl
          simp only; rw [hgl, take_snoc hj, List.map_append]; rfl
        · rintro D ⟨vg, gl⟩ hgl
          simp only at hgl ⊢
          rw [List.length_map, List.take_length, hfs] at hgl
          have hgll : gl.length ≤ 2048 := by rw [hgl, List.length_map, ← hfs]; omega
          refine go (k := ?_)
          refine XL.call [] [0, 1, 2, 3, 4, 5, 6] rfl rfl rfl rfl rfl (fun _ w hs _ => rall_ok rb rv f n l w (by omega) (by omega) (by omega) (hs.own.pick (is := [5, 6]) (by decide))) fun vw _ => ?_
          rw [hfs, ← hgl]
          refine XL.nm ?_
          refine XL.slv (.head _) fun aw qw mw hv hq _ => ?_
          subst hv
          obtain rfl : qw = gl.length := by simpa using hq
          refine XL.slv (.tail _ (.tail _ (.tail _ (.tail _ (.tail _ (.head _)))))) fun ag qg mg hv hq _ => ?_
          subst hv
          obtain rfl : qg = gl.length := by simpa using hq
          refine go (k := ?_)
          refine XC.loop (α := Nat) (fun k => [(13, ptr b13), (16, .slice aw gl.length mw), (17, iv k)])
            (fun _ => [.sl (.slice aw gl.length mw) 3 1 (ivs gl), .obj D (.deferred (some [])), .blk b13 [.slice ag gl.length mg] 27, .sl (.slice ag gl.length mg) 3 1 (ivs gl)])
            (fun k => k ≤ gl.length) (fun k => gl.length - k) 0 [0, 1, 4, 5] (Nat.zero_le _) ⟨rfl, rfl, rfl, trivial⟩ rfl rfl ?_
          intro j hj
          by_cases hjl : j < gl.length
          · obtain ⟨y, hy⟩ : ∃ y, gl[j]? = some y := ⟨_, List.getElem?_eq_getElem hjl⟩
            have hy1 : (ivs gl)[j * 1]? = some (iv y) := by simp [ivs, hy]
            have r1 : Rd w (ids []) [.sl (.slice aw gl.length mw) 3 1 (ivs gl), .obj D (.deferred (some [])), .blk b13 [.slice ag gl.length mg] 27, .sl (.slice ag gl.length mg) 3 1 (ivs gl)] (.slice aw gl.length mw) 1 gl.length (ivs gl) := .sl (.head _) (by decide) (by simp)
            have r2 : Rd w (ids []) [.sl (.slice aw gl.length mw) 3 1 (ivs gl), .obj D (.deferred (some [])), .blk b13 [.slice ag gl.length mg] 27, .sl (.slice ag gl.length mg) 3 1 (ivs gl)] (.slice ag gl.length mg) 1 gl.length (ivs gl) := .sl (.tail _ (.tail _ (.tail _ (.head _)))) (by decide) (by simp)
            refine XC.rdv r1 fun aw' mw' hv1 _ _ ha1 => ?_
            cases hv1
            refine XC.rdv r2 fun ag' mg' hv2 _ _ ha2 => ?_
            cases hv2
            obtain ⟨bw, ow, rfl⟩ : ∃ b off, aw = some ⟨b, off, none⟩ := ha1.resolve_left (by omega)
            obtain ⟨bg, og, rfl⟩ : ∃ b off, ag = some ⟨b, off, none⟩ := ha2.resolve_left (by omega)
            refine go (k := ?_)
            refine XD.q (.ldRd rfl rfl rfl r2 (by omega) hy1) rfl ?_
            refine go (k := ?_)
            refine XD.q (.ldRd rfl rfl rfl r1 (by omega) hy1) rfl ?_
            refine go (k := ?_)
            exact XE.mid (j + 1) [0, 1, 2, 3] ⟨by omega, by omega⟩ ⟨rfl, rfl, rfl, trivial⟩ rfl rfl
          · refine go (k := ?_)
            refine XL.q (.call rfl rfl fun _ w _ => awake_ok w) rfl ?_
            refine go (k := ?_)
            refine XE.mark (.inl rfl) (.there .here) ?_
            exact XE.ret1 () [] rfl rfl trivial rfl rfl rfl
  · have hno : b0 < 0 ∨ b1 ≤ b0 ∨ 2048 < b1 := by omega
    refine XL.q (.call rfl rfl fun _ w _ => load_arg b0 b1 _ w hno) rfl ?_
    refine go (k := ?_)
    refine XL.q (.call rfl rfl fun _ w _ => rload_arg b0 b1 _ w hmay) rfl ?_
    refine go (k := ?_)
    refine XD.qY rfl rfl rfl (.call rfl rfl fun _ w _ => snew_none b0 b1 w hno) rfl ?_
    refine go (k := ?_)
    refine XD.qY (v := .bool false) rfl rfl rfl (.call rfl rfl fun _ w _ => by have h := may_ok b0 b1 w; rw [decide_eq_false hmay] at h; exact h) rfl ?_
    refine go (k := ?_)
    refine XL.q (.call rfl rfl fun _ w _ => awake_ok w) rfl ?_
    refine go (k := ?_)
    exact XE.ret1 () [] rfl rfl trivial rfl rfl rfl
instance : Inhabited SAct := ⟨⟨0, 0⟩⟩
theorem scells_flat : ∀ l, scells l = l.flatMap fun a => [.int .u8 a.what, iv a.at_]
  | [] => rfl
  | a :: l => by simp only [scells, List.flatMap_cons, scells_flat l]; rfl
theorem sacts_of {H : Type} {enc : TypeId × Value → H} {w : World} {spare : Nat → Bool} {held : Bool} {v : Value} (h : KOk enc Try.prog w 0 spare held (.sl 29) v) :
    ∃ acts : List SAct, RowAt w v 2 acts.length (scells acts) ∧ acts.length ≤ maxLen ∧ ∀ a ∈ acts, (0 ≤ a.what ∧ a.what ≤ 255) ∧ -9223372036854775808 ≤ a.at_ ∧ a.at_ ≤ 9223372036854775807 := by
  obtain ⟨l, h1, h2, h3⟩ := rows_of (fun a : SAct => [.int .u8 a.what, iv a.at_]) (Q := fun a => (0 ≤ a.what ∧ a.what ≤ 255) ∧ -9223372036854775808 ≤ a.at_ ∧ a.at_ ≤ 9223372036854775807) (k := 2) (by decide) (by kernel_rfl) (fun cs fuel x hl h => by
    obtain ⟨c0, c1, rfl⟩ := len2 hl
    have hf := flat_ok 4 (l := [(0, .int .u8), (1, .int .i64)]) (by kernel_rfl) h
    obtain ⟨_, e0, n0, rfl, b0⟩ := hf (0, .int .u8) (.head _)
    obtain ⟨_, e1, n1, rfl, b1⟩ := hf (1, .int .i64) (.tail _ (.head _))
    obtain rfl := Option.some.inj e0
    obtain rfl := Option.some.inj e1
    exact ⟨⟨n0, n1⟩, rfl, wf_u8 b0, wf_i64 b1⟩) h
  exact ⟨l, by rw [scells_flat]; exact h1, h2, h3⟩
end Go.X
