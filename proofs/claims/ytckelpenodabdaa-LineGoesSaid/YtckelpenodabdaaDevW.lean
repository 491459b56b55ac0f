/- DevicePlays: the walk. -/
import Derived.Test.YtckelpenodabdaaDevV
namespace Go.X
open Go Go.Proofs Go.RowKit
theorem freshL_frl (ds : List Slot) : freshL ds ds.length = (frl ds 0).map fun x => (x.1 : Int) := by
  apply List.ext_getElem?
  intro j
  rw [List.getElem?_map]
  cases hx : (frl ds 0)[j]? with
  | none =>
    have h := List.getElem?_eq_none_iff.1 hx
    rw [frl_len] at h
    rw [List.getElem?_eq_none (by rw [nF_freshL _ (Nat.le_refl _)]; exact h)]; rfl
  | some x =>
    have hxm := List.mem_of_getElem? hx
    have hlt := (frl_ge ds 0 x hxm).2
    obtain ⟨u, hu⟩ : ∃ u, ds[x.1]? = some u := ⟨_, List.getElem?_eq_getElem (by omega)⟩
    have huf := frl_mem ds 0 x.1 u x hu hxm (by omega)
    have hn : nF ds x.1 = j := frl_nF ds 0 j x hx
    have := freshL_hit hu huf
    rw [hn] at this
    rw [this]; rfl
theorem frl_rep (n : Nat) : ∀ i, frl (List.replicate n slot0) i = [] := by
  induction n with
  | zero => intro i; rfl
  | succ n ih => intro i; rw [List.replicate_succ]; unfold frl; rw [if_neg (by decide)]; exact ih (i + 1)
theorem rdE_new (bd : Nat) (fv : Value) (n : Nat) : grp (rdG bd fv (.slice none 0 0) (List.replicate n (zbytes 64)) []) = rdE bd fv (.slice none 0 0) (List.replicate n slot0) := by
  unfold rdE
  rw [frl_rep, List.map_replicate]
  rfl
theorem Fx.shut {P : Program} {α : Type} {f : FuncId} {args : List Value} {w : World} {G1 : α → Heap} {ret : α → Value} {φ : α → Prop} {L0 : Heap} (h : Fx P f args w (Ret w L0 ret G1 φ)) : Fx P f args w (Ret w L0 ret (fun x => [X.grp (G1 x)]) φ) :=
  h.mono fun e w' hr => by
    cases e with
    | returned v =>
      obtain ⟨x, hx, hv, ho', hk, hn⟩ := hr
      refine ⟨x, hx, hv, ho'.shut, hk, ?_⟩
      rw [ids_grp1]; exact hn
    | panicked _ => exact hr
    | outgrown => exact hr
theorem rdnew_ok (n : Nat) (w : World) (hn : n ≤ 100000) :
    Fx Try.prog 21 [iv n] w (Ret w [] (fun x : Nat × Value => ptr x.1) (fun x => [rdE x.1 x.2 (.slice none 0 0) (List.replicate n slot0)]) (fun _ => True)) := by
  have h := (rnew_ok n w hn).shut
  have e : (fun x : Nat × Value => [grp (rdG x.1 x.2 (.slice none 0 0) (List.replicate n (zbytes 64)) [])]) = (fun x => [rdE x.1 x.2 (.slice none 0 0) (List.replicate n slot0)]) := by
    funext x; rw [rdE_new]
  rw [e] at h
  exact h
theorem rdcopy_ok (bd : Nat) (fv rv : Value) (ds : List Slot) (w : World) (hn : ds.length ≤ 100000) (ho : Owns w [rdE bd fv rv ds]) :
    Fx Try.prog 23 [ptr bd] w (Ret w [] (fun x : Nat × Value × Value => ptr x.1) (fun x => [rdE x.1 x.2.1 x.2.2 ds]) (fun _ => True)) :=
  (rcopy_ok bd fv rv (ds.map (·.firm)) (frl ds 0) w (by rw [List.length_map]; exact hn) (by rw [frl_len]; unfold nF; exact Nat.le_trans (List.length_filter_le _ _) (by rw [List.length_take]; omega)) (ho.grp (.head _))).shut
theorem pick_sub (L : Heap) (is : List Nat) : ∀ b ∈ ids (X.pick L is), b ∈ ids L := fun _ h => ids_pick_sub h
theorem Owns.shutL {w : World} {G M : Heap} (h : Owns w (G ++ M)) : Owns w (X.grp G :: M) :=
  (h.left.shut).append h.right fun b hb hm => h.apart b (by rw [ids_grp1] at hb; exact hb) hm
structure DP where
  k : Nat
  b : Nat
  lv : Value
  bd : Nat
  fv : Value
  rv : Value
  ds : List Slot
theorem dacells_cut {l : List DAct} {k : Nat} {a : DAct} (h : l[k]? = some a) : X.cut (dacells l) (k * 4) 4 = some (dacell a) := by
  have hl := dacells_len l
  have hlt := (List.getElem?_eq_some_iff.1 h).1
  rw [cut_some (by omega)]
  congr 1
  apply List.ext_getElem?
  intro j
  rw [List.getElem?_take]
  obtain ⟨c1, c2, c3, c4⟩ := dacells_at h
  by_cases hj : j < 4
  · rw [if_pos hj, List.getElem?_drop]
    rcases (by omega : j = 0 ∨ j = 1 ∨ j = 2 ∨ j = 3) with rfl | rfl | rfl | rfl
    · exact c1
    · exact c2
    · exact c3
    · exact c4
  · rw [if_neg hj, List.getElem?_eq_none (by simp [dacell]; omega)]
theorem frl_len_le (ds : List Slot) : (frl ds 0).length ≤ ds.length := by
  rw [frl_len]; unfold nF; exact Nat.le_trans (List.length_filter_le _ _) (by rw [List.length_take]; omega)
set_option maxHeartbeats 2000000 in
theorem devicePlays_no (n : Int) (l : List DAct) (vl : Value) (w : World) (hv : RowAt w vl 4 l.length (dacells l)) (hl : l.length ≤ maxLen) (hs : ∀ a ∈ l, DActOk w a) (hn : -9223372036854775808 ≤ n ∧ n ≤ 9223372036854775807) (h : fewD l = false ∨ n < 256 ∨ 2048 < n) :
    Fx Try.prog 4 [iv n, vl] w (Pure w (.bool true)) := by
  have hra : ∀ a ∈ l, Rd w (ids []) [] a.cv 1 a.ch.length (ivs a.ch) := fun a ha => .old (hs a ha).row (fun _ _ _ => by simp [X.ids])
  have hrl : Rd w (ids []) [] vl 4 l.length (dacells l) := .old hv (fun _ _ _ => by simp [X.ids])
  have hfew : ∀ w', Kept (ids []) w w' → Fx Try.prog 18 [vl] w' (Pure w' (.bool (fewD l))) := fun w' hk => fewD_ok vl l w' (hrl w' (Owns.nil _) hk) hl (fun a ha => ⟨(hs a ha).what, (hs a ha).at_, (hs a ha).s, hra a ha w' (Owns.nil _) hk, (hs a ha).chl, (hs a ha).chw⟩)
  refine Fx.of (L0 := []) Try.func4 rfl (by kernel_rfl) Try.ntmps4 rfl (Owns.nil w) ?_
  by_cases hm : n < 256 ∨ 2048 < n
  · refine go (k := ?_)
    refine XL.q (.call rfl rfl fun _ w _ => dnew_none n w hm) rfl ?_
    refine go (k := ?_)
    refine XL.q (.call rfl rfl fun _ w' hs' => hfew w' hs'.kept) rfl ?_
    cases hf : fewD l with
    | false =>
      refine go (k := ?_)
      refine XL.q (.call rfl rfl fun _ w _ => may_no n w hm) rfl ?_
      refine go (k := ?_)
      refine XL.q (.call rfl rfl fun _ w _ => awake11_ok w) rfl ?_
      refine go (k := ?_)
      exact XE.ret1 () [] rfl rfl trivial rfl rfl rfl
    | true =>
      refine go (k := ?_)
      refine XL.q (.call rfl rfl fun _ w _ => may_no n w hm) rfl ?_
      refine go (k := ?_)
      refine XL.q (.call rfl rfl fun _ w _ => may_no n w hm) rfl ?_
      refine go (k := ?_)
      refine XL.q (.call rfl rfl fun _ w _ => awake11_ok w) rfl ?_
      refine go (k := ?_)
      exact XE.ret1 () [] rfl rfl trivial rfl rfl rfl
  · have hf := h.resolve_right hm
    obtain ⟨m, rfl⟩ : ∃ m : Nat, n = m := ⟨n.toNat, by omega⟩
    refine go (k := ?_)
    refine XL.call [] [] rfl rfl rfl rfl rfl (fun _ w _ _ => dnew_ok m w (by omega) (by omega)) fun x _ => ?_
    obtain ⟨b, lv⟩ := x
    refine go (k := ?_)
    refine XL.q (.call rfl rfl fun _ w' hs' => hfew w' hs'.kept) rfl ?_
    rw [hf]
    refine go (k := ?_)
    refine XL.q (.call rfl rfl fun _ w _ => may_yes m w (by omega) (by omega)) rfl ?_
    refine go (k := ?_)
    refine XL.q (.call rfl rfl fun _ w _ => awake11_ok w) rfl ?_
    refine go (k := ?_)
    exact XE.ret1 () [] rfl rfl trivial rfl rfl rfl
set_option maxHeartbeats 4000000 in
theorem devicePlays_yes (n : Nat) (l : List DAct) (vl : Value) (w : World) (hv : RowAt w vl 4 l.length (dacells l)) (hl : l.length ≤ maxLen) (hs : ∀ a ∈ l, DActOk w a) (hn1 : 256 ≤ n) (hn2 : n ≤ 2048) (hf : fewD l = true) :
    Fx Try.prog 4 [iv n, vl] w (Pure w (.bool true)) := by
  have hra : ∀ a ∈ l, Rd w (ids []) [] a.cv 1 a.ch.length (ivs a.ch) := fun a ha => .old (hs a ha).row (fun _ _ _ => by simp [X.ids])
  have hrl : ∀ L : Heap, Rd w (ids []) L vl 4 l.length (dacells l) := fun L => .old hv (fun _ _ _ => by simp [X.ids])
  have hfew : ∀ w', Kept (ids []) w w' → Fx Try.prog 18 [vl] w' (Pure w' (.bool (fewD l))) := fun w' hk => fewD_ok vl l w' (hrl [] w' (Owns.nil _) hk) hl (fun a ha => ⟨(hs a ha).what, (hs a ha).at_, (hs a ha).s, hra a ha w' (Owns.nil _) hk, (hs a ha).chl, (hs a ha).chw⟩)
  have hl' := hl
  simp only [maxLen] at hl'
  obtain ⟨hfa, hfl⟩ := fewD_spec hf
  refine Fx.of (L0 := []) Try.func4 rfl (by kernel_rfl) Try.ntmps4 rfl (Owns.nil w) ?_
  refine XC.rdv (hrl _) fun ac mc hvc _ _ hac => ?_
  subst hvc
  refine go (k := ?_)
  refine XL.call [] [] rfl rfl rfl rfl rfl (fun _ w _ _ => dnew_ok n w (by omega) (by omega)) fun x _ => ?_
  obtain ⟨b, lv⟩ := x
  refine go (k := ?_)
  refine XL.q (.call rfl rfl fun _ w' hs' => hfew w' hs'.kept) rfl ?_
  rw [hf]
  refine go (k := ?_)
  refine XL.q (.call rfl rfl fun _ w _ => may_yes n w (by omega) (by omega)) rfl ?_
  refine go (k := ?_)
  refine XL.q (.call rfl rfl fun _ w' hs => blocks_ok b lv _ w' (rep_ok n) (hs.own.grp (.head _))) rfl ?_
  rw [show ((List.replicate n slot0).length : Int) = (n : Int) by rw [List.length_replicate]]
  refine go (k := ?_)
  refine XL.call [] [0] rfl rfl rfl rfl rfl (fun _ w _ _ => rdnew_ok n w (by omega)) fun x _ => ?_
  obtain ⟨bd, fv⟩ := x
  refine XL.nm ?_
  refine go (k := ?_)
  refine XC.loop (α := DP) (fun x => [(1, .slice ac l.length mc), (5, ptr x.b), (6, ptr x.bd), (7, iv x.k)]) (fun x => [devE x.b x.lv x.ds, rdE x.bd x.fv x.rv x.ds])
    (fun x => x.k ≤ l.length ∧ Oks x.ds ∧ DInv x.ds ∧ x.ds.length = n) (fun x => l.length - x.k) ⟨0, b, lv, bd, fv, .slice none 0 0, List.replicate n slot0⟩ [1, 0] ⟨Nat.zero_le _, rep_ok n, rep_inv n, List.length_replicate⟩ ⟨rfl, rfl, rfl, rfl, trivial⟩ rfl rfl ?_
  clear b lv bd fv
  rintro ⟨k, b, lv, bd, fv, rv, ds⟩ ⟨hk, hok, hinv, hdl⟩
  simp only at hk hok hinv hdl ⊢
  have hd2 : ds.length ≤ 100000 := by omega
  have hd0 : 0 < ds.length := by omega
  by_cases hkl : k < l.length
  · obtain ⟨a, ha⟩ : ∃ a, l[k]? = some a := ⟨_, List.getElem?_eq_getElem hkl⟩
    obtain ⟨b1, o1, rfl⟩ : ∃ b off, ac = some ⟨b, off, none⟩ := hac.resolve_left (by omega)
    obtain ⟨c1, c2, c3, c4⟩ := dacells_at ha
    have hcut := dacells_cut ha
    have hao := hs a (List.mem_of_getElem? ha)
    have hac1 := hfa a (List.mem_of_getElem? ha)
    have hroa : ∀ w', Kept (ids []) w w' → RowAt w' a.cv 1 a.ch.length (ivs a.ch) := fun w' hk => hra a (List.mem_of_getElem? ha) w' (Owns.nil _) hk
    have haw := hao.what
    by_cases w5 : a.what % 6 = 5
    · refine go (k := ?_)
      refine XL.q (.ldRd (j := k * 4) rfl rfl rfl (hrl _) (by omega) c1) rfl ?_
      refine go (k := ?_)
      refine XL.call [] [0, 1] rfl rfl rfl rfl rfl (fun _ w hs _ => dcopy_ok b lv ds w hok hd0 hd2 (hs.own.grp (.head _))) fun x _ => ?_
      obtain ⟨b', lv'⟩ := x
      refine XL.nm ?_
      refine go (k := ?_)
      refine XL.call [] [0, 1, 2] rfl rfl rfl rfl rfl (fun _ w hs _ => rdcopy_ok bd fv rv ds w hd2 (hs.own.pick (is := [2]) (by decide))) fun x _ => ?_
      obtain ⟨bd', fv', rv'⟩ := x
      refine XL.nm ?_
      refine go (k := ?_)
      refine XL.call [2] [1, 0] rfl rfl rfl rfl rfl (fun _ w _ ho => write_any b lv ds 0 [111, 108, 100] w hok hd0 ho) fun _ _ => ?_
      refine XL.nm ?_
      refine go (k := ?_)
      refine XL.call [0] [1, 2] rfl rfl rfl rfl rfl (fun _ w _ ho => Fx.grp (fun ho => flush_ok b lv _ w (dwr_ok hok _ _) (by rw [dwr_len]; omega) ho) ho) fun _ _ => ?_
      refine XL.nm ?_
      refine go (k := ?_)
      refine XL.q (.ldRdN (j := k * 4) rfl rfl rfl rfl (hrl _) (by omega) hcut) rfl ?_
      refine go (k := ?_)
      refine XL.call [1, 2] [] rfl rfl rfl rfl rfl (fun _ w1 hs' ho => one_ok b' bd' lv' fv' rv' ds a w1 hok hd0 hd2 hao.what (by omega) hao.chw (fun w' hk' => hroa w' (hs'.keptTo hk' (fun _ h => ids_pick_sub (L := [_, _, _]) (is := [1, 2]) h))) ho) fun rv2 _ => ?_
      refine XL.nm ?_
      have hok2 := dstep_ok hok a
      have hinv2 := dstep_inv hinv a
      have hdl2 := (dstep_len ds a).trans hdl
      refine go (k := ?_)
      refine XL.q (.ldRd (j := k * 4 + 1) rfl rfl rfl (hrl _) (by omega) c2) rfl ?_
      refine go (k := ?_)
      refine XL.q (.call rfl rfl fun _ w hs => alike_ok b' bd' lv' fv' rv2 (dstep ds a) a.at_ w hok2 hinv2 (by omega) (by omega) hs.own) rfl ?_
      refine go (k := ?_)
      exact XE.mid ⟨k + 1, b', lv', bd', fv', rv2, dstep ds a⟩ [0, 1] ⟨⟨show k + 1 ≤ l.length by omega, hok2, hinv2, hdl2⟩, show l.length - (k + 1) < l.length - k by omega⟩ ⟨rfl, rfl, rfl, rfl, trivial⟩ rfl rfl
    · refine go (k := ?_)
      refine XL.q (.ldRd (j := k * 4) rfl rfl rfl (hrl _) (by omega) c1) rfl ?_
      refine go (k := ?_)
      refine XL.q (.ldRdN (j := k * 4) rfl rfl rfl rfl (hrl _) (by omega) hcut) rfl ?_
      refine go (k := ?_)
      refine XL.call [0, 1] [] rfl rfl rfl rfl rfl (fun _ w1 hs' ho => one_ok b bd lv fv rv ds a w1 hok hd0 hd2 hao.what (by omega) hao.chw (fun w' hk' => hroa w' (hs'.keptTo hk' (fun _ h => h))) ho) fun rv2 _ => ?_
      refine XL.nm ?_
      have hok2 := dstep_ok hok a
      have hinv2 := dstep_inv hinv a
      have hdl2 := (dstep_len ds a).trans hdl
      refine go (k := ?_)
      refine XL.q (.ldRd (j := k * 4 + 1) rfl rfl rfl (hrl _) (by omega) c2) rfl ?_
      refine go (k := ?_)
      refine XL.q (.call rfl rfl fun _ w hs => alike_ok b bd lv fv rv2 (dstep ds a) a.at_ w hok2 hinv2 (by omega) (by omega) hs.own) rfl ?_
      refine go (k := ?_)
      exact XE.mid ⟨k + 1, b, lv, bd, fv, rv2, dstep ds a⟩ [0, 1] ⟨⟨show k + 1 ≤ l.length by omega, hok2, hinv2, hdl2⟩, show l.length - (k + 1) < l.length - k by omega⟩ ⟨rfl, rfl, rfl, rfl, trivial⟩ rfl rfl
  · obtain rfl : k = l.length := by omega
    refine go (k := ?_)
    refine XL.make (.call rfl rfl fun _ w hs => fresh_ok b lv ds w hok hd2 (hs.own.grp (.head _))) rfl fun v H hv => ?_
    obtain ⟨vf, _, rfl, rfl⟩ := hv
    refine XL.nm ?_
    refine XL.pk [2, 1, 0] rfl rfl ?_
    refine XL.openG ?_
    refine XL.nm ?_
    refine XL.rdv (.sl (m := (freshL ds ds.length).length) (.tail _ (.tail _ (.tail _ (.tail _ (.head _))))) (by decide) (by simp)) fun ap mp hv1 _ _ hap => ?_
    subst hv1
    have hfe := freshL_frl ds
    have hflen : (freshL ds ds.length).length = (frl ds 0).length := by rw [hfe, List.length_map]
    have hfle := frl_len_le ds
    refine XL.rdv (.sl (m := (frl ds 0).length) (.tail _ (.tail _ (.head _))) (by decide) (frcs_len _).symm) fun ar mr hv2 _ _ har => ?_
    subst hv2
    refine go (k := ?_)
    refine XC.loop (α := Nat) (fun i => [(1, .slice ac l.length mc), (5, ptr b), (6, ptr bd), (9, .slice ap (freshL ds ds.length).length mp), (10, iv i)])
      (fun _ => rdG bd fv (.slice ar (frl ds 0).length mr) (ds.map (·.firm)) (frl ds 0) ++ [devE b lv ds, .sl (.slice ap (freshL ds ds.length).length mp) 3 1 (ivs (freshL ds ds.length))]) (fun i => i ≤ (frl ds 0).length) (fun i => (frl ds 0).length - i) 0 [0, 1, 2, 3, 4] (Nat.zero_le _) ⟨rfl, rfl, rfl, rfl, rfl, trivial⟩ rfl rfl ?_
    intro i hi
    by_cases hil : i < (frl ds 0).length
    · obtain ⟨x, hx⟩ : ∃ x, (frl ds 0)[i]? = some x := ⟨_, List.getElem?_eq_getElem hil⟩
      have hfx : (freshL ds ds.length)[i]? = some (x.1 : Int) := by rw [hfe, List.getElem?_map, hx]; rfl
      obtain ⟨c5, c6⟩ := frcs_at hx
      obtain ⟨b2, o2, rfl⟩ : ∃ b off, ap = some ⟨b, off, none⟩ := hap.resolve_left (by omega)
      obtain ⟨b3, o3, rfl⟩ : ∃ b off, ar = some ⟨b, off, none⟩ := har.resolve_left (by omega)
      have hv1 : (ivs (freshL ds ds.length))[i * 1]? = some (iv (x.1 : Int)) := by simp [ivs, hfx]
      refine go (k := ?_)
      refine XD.q (.ldRd (j := i * 1) (k := 1) (m := (freshL ds ds.length).length) (xs := ivs (freshL ds ds.length)) rfl rfl rfl (.sl (.tail _ (.tail _ (.tail _ (.tail _ (.head _))))) (by decide) (by simp)) (by omega) hv1) rfl ?_
      refine go (k := ?_)
      refine XD.q (.ldRd (j := i * 2) (k := 2) (m := (frl ds 0).length) (xs := frcs (frl ds 0)) rfl rfl rfl (.sl (.tail _ (.tail _ (.head _))) (by decide) (frcs_len _).symm) (by omega) c5) rfl ?_
      refine go (k := ?_)
      exact XE.mid (i + 1) [0, 1, 2, 3, 4] ⟨by omega, by omega⟩ ⟨rfl, rfl, rfl, rfl, rfl, trivial⟩ rfl rfl
    · refine go (k := ?_)
      refine XC.loop (α := Nat) (fun i => [(1, .slice ac l.length mc), (5, ptr b), (6, ptr bd), (11, iv i)])
        (fun _ => rdG bd fv (.slice ar (frl ds 0).length mr) (ds.map (·.firm)) (frl ds 0) ++ [devE b lv ds]) (fun i => i ≤ l.length) (fun i => l.length - i) 0 [0, 1, 2, 3] (Nat.zero_le _) ⟨rfl, rfl, rfl, rfl, trivial⟩ rfl rfl ?_
      intro j hj
      have hal : ∀ (q : Int) (a' : Go.Act) (w' : World) (e' : Env), Sit w (ids []) 135 e' [] (rdG bd fv (.slice ar (frl ds 0).length mr) (ds.map (·.firm)) (frl ds 0) ++ [devE b lv ds]) a' w' → Fx Try.prog 26 [ptr b, ptr bd, iv q] w' (Pure w' (.bool true)) := fun q a' w' e' hs => alike_ok b bd lv fv _ ds q w' hok hinv hd0 hd2 ((hs.own.shutL).pick (is := [1, 0]) (by decide))
      by_cases hjl : j < l.length
      · obtain ⟨a, ha⟩ : ∃ a, l[j]? = some a := ⟨_, List.getElem?_eq_getElem hjl⟩
        obtain ⟨b1, o1, rfl⟩ : ∃ b off, ac = some ⟨b, off, none⟩ := hac.resolve_left (by omega)
        obtain ⟨c1, c2, c3, c4⟩ := dacells_at ha
        refine go (k := ?_)
        refine XL.q (.ldRd (j := j * 4 + 1) rfl rfl rfl (hrl _) (by omega) c2) rfl ?_
        refine go (k := ?_)
        refine XL.q (.call rfl rfl fun _ w hs => hal a.at_ _ w _ hs) rfl ?_
        refine go (k := ?_)
        exact XE.mid (j + 1) [0, 1, 2, 3] ⟨by omega, by omega⟩ ⟨rfl, rfl, rfl, rfl, trivial⟩ rfl rfl
      · refine go (k := ?_)
        refine XL.q (.call rfl rfl fun _ w hs => hal 0 _ w _ hs) rfl ?_
        refine go (k := ?_)
        refine XL.q (.call rfl rfl fun _ w _ => awake11_ok w) rfl ?_
        refine go (k := ?_)
        exact XE.ret1 () [] rfl rfl trivial rfl rfl rfl
theorem devicePlays_ok (n : Int) (l : List DAct) (vl : Value) (w : World) (hv : RowAt w vl 4 l.length (dacells l)) (hl : l.length ≤ maxLen) (hs : ∀ a ∈ l, DActOk w a) (hn : -9223372036854775808 ≤ n ∧ n ≤ 9223372036854775807) :
    Fx Try.prog 4 [iv n, vl] w (Pure w (.bool true)) := by
  by_cases h : fewD l = false ∨ n < 256 ∨ 2048 < n
  · exact devicePlays_no n l vl w hv hl hs hn h
  · obtain ⟨m, rfl⟩ : ∃ m : Nat, n = m := ⟨n.toNat, by omega⟩
    exact devicePlays_yes m l vl w hv hl hs (by omega) (by omega) (by simpa using fun e => h (.inl e))
end Go.X
