/- Contracts: Count, Take, Load, Copy; spaces that are none. -/
import Derived.Test.YtiofmbiapngnmaaSpaceB
namespace Go.X
open Go Go.Proofs
theorem count_ok (b : Nat) (lv : Value) (f n : Nat) (u : Nat → Bool) (w : World) (h1 : f < n) (h2 : n ≤ 2048) (ho : Owns w [spE b lv f n u]) :
    Fx Try.prog 11 [ptr b] w (Ret w [spE b lv f n u] (fun _ : Unit => iv (frees f n u).length) (fun _ => [spE b lv f n u]) (fun _ => True)) := by
  refine Fx.of Try.func11 rfl (by kernel_rfl) Try.ntmps11 rfl ho ?_
  refine go (k := ?_)
  refine XL.alloc rfl rfl rfl fun bn => ?_
  refine go (k := ?_)
  refine XL.call [] [0, 1] rfl rfl rfl rfl rfl (fun _ w _ _ => sall_ok (ptr b) rfl w) fun bx _ => ?_
  have hfl := frees_len u f n
  refine go (k := ?_)
  refine XC.rangeFunc (α := Nat) (β := Empty) (H := fun c => [.blk bn [iv c] 3]) (φ := fun k c => c = k) (Z := fun _ => []) (ψ := fun _ => False) (jmp := fun _ => .ret) 0 [0, 2, 1]
    (fun vs => zipE [6] vs [(3, ptr bn)]) rfl (sall_seq bx b lv f n u h1 h2) rfl rfl rfl ?_ rfl ?_ ?_ ?_ (fun _ y => y.elim)
  · intro k vs hvs
    obtain ⟨j, rfl, _⟩ := sitems_form hvs
    rfl
  · intro l k vs w L' hvs
    obtain ⟨j, rfl, _⟩ := sitems_form hvs
    refine go (k := ?_)
    exact XE.midI () trivial ⟨rfl, rfl, trivial⟩ rfl
  · intro l k vs x w hvs hx _
    obtain ⟨j, rfl, hj⟩ := sitems_form hvs
    have hk := (List.getElem?_eq_some_iff.1 hj).1
    subst hx
    refine go (k := ?_)
    exact XE.round (x + 1) [0, 1, 2] rfl rfl rfl
  · intro D x hx
    rw [List.length_map] at hx
    subst hx
    refine go (k := ?_)
    refine XE.mark (.inl rfl) .here ?_
    exact XE.ret1 () [2] rfl rfl trivial rfl rfl rfl
def stake (f n : Nat) (u : Nat → Bool) : Int × Int × (Nat → Bool) := match frees f n u with
  | [] => (0, 7, u)
  | k :: _ => ((k : Nat), 0, upd u k true)
theorem take_ok (b : Nat) (lv : Value) (f n : Nat) (u : Nat → Bool) (w : World) (h1 : f < n) (h2 : n ≤ 2048) (ho : Owns w [spE b lv f n u]) :
    Fx Try.prog 10 [ptr b] w (Ret w [spE b lv f n u] (fun _ : Unit => .tuple #[iv (stake f n u).1, iv (stake f n u).2.1]) (fun _ => [spE b lv f n (stake f n u).2.2]) (fun _ => True)) := by
  refine Fx.of Try.func10 rfl (by kernel_rfl) Try.ntmps10 rfl ho ?_
  have hin : decide (0 < (n : Int)) = true := decide_eq_true (by omega)
  refine go (k := ?_)
  refine XL.box rfl rfl rfl fun b1 => ?_
  refine XL.alloc rfl rfl rfl fun b2 => ?_
  refine XL.alloc rfl rfl rfl fun b3 => ?_
  refine go (k := ?_)
  refine XL.q (.call rfl rfl fun _ w hs => sis_ok b f n lv _ _ w ((hs.own.grp (.tail _ (.tail _ (.tail _ (.head _))))).ok _ (.head _))) rfl ?_
  rw [hin]
  refine go (k := ?_)
  refine XL.call [] [0, 1, 2, 3] rfl rfl rfl rfl rfl (fun _ w _ _ => sall_ok (ptr b) rfl w) fun bx _ => ?_
  refine go (k := ?_)
  refine XC.rangeFunc (α := Unit) (β := Unit) (H := fun _ => [.blk b1 [ptr b] 25, .blk b2 [iv 0] 3, .blk b3 [iv 0] 30]) (φ := fun k _ => k = 0)
    (Z := fun _ => [spE b lv f n (stake f n u).2.2, .blk b2 [iv (stake f n u).1] 3, .blk b3 [iv (stake f n u).2.1] 30]) (ψ := fun _ => True) (jmp := fun _ => .ret) () [0, 4, 3, 2, 1]
    (fun vs => zipE [4] vs [(1, ptr b1), (2, ptr b2), (3, ptr b3)]) rfl (sall_seq bx b lv f n u h1 h2) rfl rfl rfl ?_ rfl ?_ ?_ ?_ ?_
  · intro k vs hvs
    obtain ⟨j, rfl, _⟩ := sitems_form hvs
    rfl
  · intro l k vs w L' hvs
    obtain ⟨j, rfl, _⟩ := sitems_form hvs
    refine go (k := ?_)
    exact XE.midI () trivial ⟨rfl, rfl, rfl, rfl, trivial⟩ rfl
  · rintro l k vs _ w hvs rfl _
    obtain ⟨j, rfl, hj⟩ := sitems_form hvs
    obtain ⟨tl, htl⟩ : ∃ tl, frees f n u = j :: tl := by
      cases hf : frees f n u with
      | nil => rw [hf] at hj; cases hj
      | cons x tl => rw [hf] at hj; exact ⟨tl, by rw [Option.some.inj hj]⟩
    have hst : stake f n u = (((j : Nat) : Int), 0, upd u j true) := by unfold stake; rw [htl]
    have hjm : j ∈ frees f n u := by rw [htl]; exact .head _
    unfold frees at hjm
    rw [List.mem_filter, List.mem_range'_1] at hjm
    have hus : suse f n u j = (0, upd u j true) := by
      unfold suse
      rw [if_neg (by omega), if_neg (by simpa using hjm.2)]; simp
    rw [hst]
    refine go (k := ?_)
    refine XL.call [1] [0, 2, 3, 4] rfl rfl rfl rfl rfl (fun _ w _ ho => use_ok b lv f n u j w (by omega) h2 ho) fun _ _ => ?_
    rw [hus]
    refine go (k := ?_)
    exact XE.outRet () [0, 3, 4] trivial rfl rfl rfl
  · intro D x hx
    rw [List.length_map] at hx
    have hst : stake f n u = (0, 7, u) := by unfold stake; rw [List.eq_nil_of_length_eq_zero hx]
    rw [hst]
    refine go (k := ?_)
    refine XE.mark (.inl rfl) .here ?_
    exact XE.retC2 () [2] rfl rfl rfl rfl rfl rfl rfl (.tail _ (.tail _ (.tail _ (.tail _ (.head _))))) rfl (.tail _ (.tail _ (.tail _ (.tail _ (.tail _ (.head _)))))) rfl trivial rfl rfl rfl
  · intro D y _
    refine go (k := ?_)
    refine XE.mark (.inl rfl) .here ?_
    exact XE.retC2 () [1] rfl rfl rfl rfl rfl rfl rfl (.tail _ (.tail _ (.head _))) rfl (.tail _ (.tail _ (.tail _ (.head _)))) rfl trivial rfl rfl rfl
/-! ### Load -/
def sload (f n : Nat) : (Nat → Bool) → List Int → Option (Nat → Bool)
  | u, [] => some u
  | u, a :: l => if (suse f n u a).1 = 0 then sload f n (suse f n u a).2 l else none
theorem sload_snoc (f n : Nat) : ∀ (l : List Int) (u : Nat → Bool) (a : Int), sload f n u (l ++ [a]) = (sload f n u l).bind fun v => if (suse f n v a).1 = 0 then some (suse f n v a).2 else none
  | [], u, a => rfl
  | x :: l, u, a => by
    simp only [List.cons_append, sload]
    split
    · exact sload_snoc f n l _ a
    · rfl
theorem sload_none (f n : Nat) : ∀ (l m : List Int) (u : Nat → Bool), sload f n u l = none → sload f n u (l ++ m) = none
  | [], m, u, h => by cases h
  | x :: l, m, u, h => by
    simp only [List.cons_append, sload] at h ⊢
    split
    · rename_i h0; rw [if_pos h0] at h; exact sload_none f n l m _ h
    · rfl
def zero : Nat → Bool := fun _ => false
theorem load_arg (f n : Int) (v : Value) (w : World) (h : f < 0 ∨ n ≤ f ∨ 2048 < n) : Fx Try.prog 13 [iv f, iv n, v] w (Pure w (.tuple #[.pointer none, iv 2])) := by
  refine Fx.of (L0 := []) Try.func13 rfl (by kernel_rfl) Try.ntmps13 rfl (Owns.nil w) ?_
  refine go (k := ?_)
  refine XL.q (.call rfl rfl fun _ w _ => snew_none f n w h) rfl ?_
  refine go (k := ?_)
  exact XE.ret2 () [] rfl rfl rfl trivial rfl rfl rfl
theorem load_ok (f n : Nat) (v : Value) (l : List Int) (w : World) (h1 : f < n) (h2 : n ≤ 2048) (hv : RowAt w v 1 l.length (ivs l)) (hl : l.length ≤ 4611686018427387904) :
    Fx Try.prog 13 [iv f, iv n, v] w (Ret w [] (fun x : Option (Nat × Value × (Nat → Bool)) => match x with
        | some x => .tuple #[ptr x.1, iv 0]
        | none => .tuple #[.pointer none, iv 4]) (fun x => match x with
        | some x => [spE x.1 x.2.1 f n x.2.2]
        | none => []) (fun x => sload f n zero l = x.map (·.2.2))) := by
  have hrd : ∀ L : Heap, Rd w (ids []) L v 1 l.length (ivs l) := fun L => .old hv (fun _ _ _ => by simp [X.ids])
  refine Fx.of (L0 := []) Try.func13 rfl (by kernel_rfl) Try.ntmps13 rfl (Owns.nil w) ?_
  refine XC.rdv (hrd _) fun ao m hva _ _ haa => ?_
  subst hva
  refine go (k := ?_)
  refine XL.call [] [] rfl rfl rfl rfl rfl (fun _ w _ _ => snew_ok f n w h1 h2) fun x _ => ?_
  obtain ⟨b, lv⟩ := x
  refine go (k := ?_)
  refine XC.loop (α := Nat × (Nat → Bool)) (fun x => [(8, ptr b), (16, .slice ao l.length m), (17, iv l.length), (18, iv x.1)]) (fun x => [spE b lv f n x.2])
    (fun x => x.1 ≤ l.length ∧ sload f n zero (l.take x.1) = some x.2) (fun x => l.length - x.1) (0, zero) [0] ⟨Nat.zero_le _, rfl⟩ ⟨rfl, rfl, rfl, rfl, trivial⟩ rfl rfl ?_
  rintro ⟨k, u⟩ ⟨hk, hu⟩
  simp only at hk hu ⊢
  by_cases hkl : k < l.length
  · obtain ⟨a, ha⟩ : ∃ x, l[k]? = some x := ⟨_, List.getElem?_eq_getElem hkl⟩
    obtain ⟨b1, o1, rfl⟩ : ∃ b off, ao = some ⟨b, off, none⟩ := haa.resolve_left (by omega)
    have hv1 : (ivs l)[k * 1]? = some (iv a) := by simp [ivs, ha]
    have hsn := sload_snoc f n (l.take k) zero a
    rw [← take_snoc ha, hu, Option.bind_some] at hsn
    refine go (k := ?_)
    refine XL.q (.ldRd rfl rfl rfl (hrd _) (by omega) hv1) rfl ?_
    refine go (k := ?_)
    refine XL.call [0] [] rfl rfl rfl rfl rfl (fun _ w _ ho => use_ok b lv f n u a w (by omega) h2 ho) fun _ _ => ?_
    by_cases he : (suse f n u a).1 = 0
    · rw [if_pos he] at hsn
      refine go (k := ?_)
      exact XE.mid (k + 1, (suse f n u a).2) [0] ⟨⟨by simp only; omega, hsn⟩, by simp only; omega⟩ ⟨rfl, rfl, rfl, rfl, trivial⟩ rfl rfl
    · rw [if_neg he] at hsn
      have hno : sload f n zero l = none := by rw [← List.take_append_drop (k + 1) l]; exact sload_none f n _ _ _ hsn
      refine go (k := ?_)
      exact XE.ret2 none [] rfl rfl rfl hno rfl rfl rfl
  · obtain rfl : k = l.length := by omega
    rw [List.take_length] at hu
    refine go (k := ?_)
    exact XE.ret2 (some (b, lv, u)) [0] rfl rfl rfl (by simpa using hu) rfl rfl rfl
end Go.X
