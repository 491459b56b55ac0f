/- Contracts of the reference's functions. -/
import Derived.Test.YtifoppgacekknaaHashD
namespace Go.X
open Go Go.Proofs
abbrev iv (n : Nat) : Value := .int .i64 (n : Int)
def rcells : List (Nat × Int) → List Value
  | [] => []
  | p :: l => iv p.1 :: uv p.2 :: rcells l
theorem rcells_len : ∀ l, (rcells l).length = l.length * 2
  | [] => rfl
  | p :: l => by simp only [rcells, List.length_cons, rcells_len l]; omega
theorem rcells_app : ∀ l m, rcells (l ++ m) = rcells l ++ rcells m
  | [], m => rfl
  | p :: l, m => by simp only [List.cons_append, rcells, rcells_app l m]
theorem rcells_at : ∀ {l : List (Nat × Int)} {i : Nat} {p : Nat × Int}, l[i]? = some p → (rcells l)[i * 2]? = some (iv p.1) ∧ (rcells l)[i * 2 + 1]? = some (uv p.2)
  | [], i, p, h => by simp at h
  | q :: l, 0, p, h => by simp at h; subst h; exact ⟨rfl, rfl⟩
  | q :: l, i + 1, p, h => by
    have := rcells_at (l := l) (i := i) (by simpa using h)
    rw [show (i + 1) * 2 = i * 2 + 1 + 1 by omega]
    exact this
theorem rcells_one (l : List (Nat × Int)) : (rcells l).all Value.oneCell' = true := by
  induction l with
  | nil => rfl
  | cons p l ih => simp only [rcells, List.all_cons, ih, Bool.and_true]; rfl
/-- the reference's index in memory -/
abbrev rixG (b : Nat) (v : Value) (rl : List (Nat × Int)) : Heap := [.blk b [v] 33, .sl v 58 2 (rcells rl)]
theorem rat_ok (b : Nat) (v : Value) (rl : List (Nat × Int)) (s : List UInt8) (id : Int) (w : World) (hs : s.length ≤ 10000) (hl : rl.length ≤ 1000000) (ho : Owns w (rixG b v rl)) :
    Fx Try.prog 31 [ptr b, str s, uv id] w (Ret w (rixG b v rl) (fun _ : Unit => .int .i64 (idxOf (bucket s, id) rl)) (fun _ => rixG b v rl) (fun _ => True)) := by
  refine Fx.of Try.func31 rfl (by kernel_rfl) Try.ntmps31 rfl ho ?_
  refine XC.slv (.tail _ (.head _)) fun ao q m hv hq hqm => ?_
  subst hv
  obtain rfl : q = rl.length := by rw [rcells_len] at hq; omega
  refine go (k := ?_)
  refine XC.loop (α := Nat) (fun k => [(0, ptr b), (1, str s), (2, uv id), (7, iv k)]) (fun _ => rixG b (.slice ao rl.length m) rl)
    (fun k => k ≤ rl.length ∧ (bucket s, id) ∉ rl.take k) (fun k => rl.length - k) 0 [0, 1] ⟨Nat.zero_le _, by simp⟩ ⟨rfl, rfl, rfl, rfl, trivial⟩ rfl rfl ?_
  intro k ⟨hk, hn⟩
  by_cases hkl : k < rl.length
  · obtain ⟨⟨j, x⟩, hp⟩ : ∃ p, rl[k]? = some p := ⟨_, List.getElem?_eq_getElem hkl⟩
    have hr : Rd w (ids (rixG b (.slice ao rl.length m) rl)) (rixG b (.slice ao rl.length m) rl) (.slice ao rl.length m) 2 rl.length (rcells rl) := .sl (.tail _ (.head _)) (by decide) (rcells_len rl).symm
    refine XC.rdv hr fun ao' m' hv' _ _ ha => ?_
    cases hv'
    obtain ⟨b1, o1, rfl⟩ : ∃ b off, ao = some ⟨b, off, none⟩ := ha.resolve_left (by omega)
    obtain ⟨h1, h2⟩ := rcells_at hp
    refine go (k := ?_)
    refine XD.q (.ldRd (j := k * 2) rfl rfl rfl hr (by omega) h1) rfl ?_
    refine go (k := ?_)
    refine XD.q (.call rfl rfl fun _ w _ => rbucket_ok s hs w) rfl ?_
    by_cases hj : (j : Int) = (bucket s : Int)
    · by_cases hx : x = id
      · refine go (k := ?_)
        refine XD.qY rfl rfl (by simp only [decide_eq_true_eq]; exact hj) (.ldRd (j := k * 2 + 1) rfl rfl rfl hr (by omega) h2) rfl ?_
        refine go (k := ?_)
        refine XE.ret1 () [0, 1] rfl rfl trivial ?_ rfl rfl
        have hjn : j = bucket s := by omega
        rw [idxOf_at (k := k) (by rw [hp, hjn, hx]) hn]
      · refine go (k := ?_)
        refine XD.qY rfl rfl (by simp only [decide_eq_true_eq]; exact hj) (.ldRd (j := k * 2 + 1) rfl rfl rfl hr (by omega) h2) rfl ?_
        refine go (k := ?_)
        refine XE.mid (k + 1) [0, 1] ⟨⟨by omega, ?_⟩, by omega⟩ ⟨rfl, rfl, rfl, rfl, trivial⟩ rfl rfl
        rw [htake_snoc hp]; simp only [List.mem_append, List.mem_singleton, not_or]; exact ⟨hn, fun e => hx (Prod.mk.inj e).2.symm⟩
    · refine go (k := ?_)
      refine XE.mid (k + 1) [0, 1] ⟨⟨by omega, ?_⟩, by omega⟩ ⟨rfl, rfl, rfl, rfl, trivial⟩ rfl rfl
      rw [htake_snoc hp]; simp only [List.mem_append, List.mem_singleton, not_or]; exact ⟨hn, fun e => hj (by rw [(Prod.mk.inj e).1])⟩
  · obtain rfl : k = rl.length := by omega
    rw [List.take_length] at hn
    refine go (k := ?_)
    refine XE.ret1 () [0, 1] rfl rfl trivial ?_ rfl rfl
    rw [idxOf_none hn]

theorem radd_there (b : Nat) (v : Value) (rl : List (Nat × Int)) (s : List UInt8) (id : Int) (w : World) (hs : s.length ≤ 10000) (hl : rl.length ≤ 1000000) (hm : (bucket s, id) ∈ rl) (ho : Owns w (rixG b v rl)) :
    Fx Try.prog 21 [ptr b, str s, uv id] w (Ret w (rixG b v rl) (fun _ : Unit => .int .i64 6) (fun _ => rixG b v rl) (fun _ => True)) := by
  refine Fx.of Try.func21 rfl (by kernel_rfl) Try.ntmps21 rfl ho ?_
  have hidx : 0 ≤ idxOf (bucket s, id) rl := Int.not_lt.1 (fun h => (idxOf_neg.1 h) hm)
  have hb := idxOf_lt (bucket s, id) rl
  refine go (k := ?_)
  refine XL.call [0, 1] [] rfl rfl rfl rfl rfl (fun _ w _ ho => rat_ok b v rl s id w hs hl ho) fun _ _ => ?_
  refine go (k := ?_)
  exact XE.ret1 () [0, 1] rfl rfl trivial rfl rfl rfl
theorem radd_new (b : Nat) (v : Value) (rl : List (Nat × Int)) (s : List UInt8) (id : Int) (w : World) (hs : s.length ≤ 10000) (hl : rl.length ≤ 1000000) (hm : (bucket s, id) ∉ rl) (ho : Owns w (rixG b v rl)) :
    Fx Try.prog 21 [ptr b, str s, uv id] w (Ret w (rixG b v rl) (fun _ : Value => .int .i64 0) (fun v' => rixG b v' (rl ++ [(bucket s, id)])) (fun _ => True)) := by
  refine Fx.of Try.func21 rfl (by kernel_rfl) Try.ntmps21 rfl ho ?_
  have hidx : ¬ 0 ≤ idxOf (bucket s, id) rl := by have := (idxOf_neg (x := (bucket s, id)) (l := rl)).2 hm; omega
  have hb := idxOf_lt (bucket s, id) rl
  refine go (k := ?_)
  refine XL.call [0, 1] [] rfl rfl rfl rfl rfl (fun _ w _ ho => rat_ok b v rl s id w hs hl ho) fun _ _ => ?_
  refine XL.slv (.tail _ (.head _)) fun ao q m hv hq hqm => ?_
  subst hv
  refine goD (k := ?_)
  refine XC.pk [1, 0] rfl rfl ?_
  refine XC.drawM (C0 := [.sl (.slice ao q m) 58 2 (rcells rl)]) (L := [.blk b [.slice ao q m] 33]) Tab.mix ?_
  refine go (k := ?_)
  refine XD.q (.call rfl rfl fun _ w _ => rbucket_ok s hs w) rfl ?_
  refine go (k := ?_)
  refine XD.make (.bslice rfl rfl rfl rfl rfl rfl) rfl rfl ?_
  refine XD.mutLook (Φ := fun v' H => H = [.sl v' 58 2 (rcells rl ++ rcells [(bucket s, id)])]) (.head _) rfl (fun u H hu => ?_) rfl rfl ?_
  · obtain ⟨b1, rfl, rfl⟩ := hu
    exact .app rfl rfl rfl rfl rfl rfl (by decide) (.blk (.head _) rfl (Nat.le_refl _) rfl) rfl (by rw [rcells_len]; simp [rcells]; omega) (by rw [rcells_len]; simp [rcells]; omega)
  refine go (k := ?_)
  refine XD.tail2 rfl (by decide +kernel) fun v' H hH u H' hu => ?_
  subst hH
  obtain ⟨b1, rfl, rfl⟩ := hu
  rw [← rcells_app]
  refine XL.slv (.tail _ (.head _)) fun ao' q' m' hv' _ _ => ?_
  subst hv'
  refine XL.stS rfl rfl rfl rfl rfl rfl (.tail _ (.tail _ (.head _))) (SplL.one _ (Nat.zero_lt_one)) (.there (.there .here)) ?_
  refine go (k := ?_)
  exact XE.ret1 (.slice ao' q' m') [2, 1] rfl rfl trivial rfl rfl rfl

theorem rcells_take (l : List (Nat × Int)) (i : Nat) (hi : i ≤ l.length) : rcells (l.take i) = (rcells l).take (i * 2) := by
  have h := rcells_app (l.take i) (l.drop i)
  rw [List.take_append_drop] at h
  have hl : (rcells (l.take i)).length = i * 2 := by rw [rcells_len, List.length_take, Nat.min_eq_left hi]
  rw [h, ← hl, List.take_left]
theorem rcells_drop (l : List (Nat × Int)) (i : Nat) (hi : i ≤ l.length) : rcells (l.drop i) = (rcells l).drop (i * 2) := by
  have h := rcells_app (l.take i) (l.drop i)
  rw [List.take_append_drop] at h
  have hl : (rcells (l.take i)).length = i * 2 := by rw [rcells_len, List.length_take, Nat.min_eq_left hi]
  rw [h, ← hl, List.drop_left]
theorem rdrop_none (b : Nat) (v : Value) (rl : List (Nat × Int)) (s : List UInt8) (id : Int) (w : World) (hs : s.length ≤ 10000) (hl : rl.length ≤ 1000000) (hm : (bucket s, id) ∉ rl) (ho : Owns w (rixG b v rl)) :
    Fx Try.prog 22 [ptr b, str s, uv id] w (Ret w (rixG b v rl) (fun _ : Unit => .int .i64 5) (fun _ => rixG b v rl) (fun _ => True)) := by
  refine Fx.of Try.func22 rfl (by kernel_rfl) Try.ntmps22 rfl ho ?_
  have hidx : idxOf (bucket s, id) rl < 0 := idxOf_neg.2 hm
  have hb := idxOf_lt (bucket s, id) rl
  refine go (k := ?_)
  refine XL.call [0, 1] [] rfl rfl rfl rfl rfl (fun _ w _ ho => rat_ok b v rl s id w hs hl ho) fun _ _ => ?_
  refine go (k := ?_)
  exact XE.ret1 () [0, 1] rfl rfl trivial rfl rfl rfl
theorem rdrop_there (b : Nat) (v : Value) (rl : List (Nat × Int)) (s : List UInt8) (id : Int) (i : Nat) (w : World) (hs : s.length ≤ 10000) (hl : rl.length ≤ 1000000) (hm : idxOf (bucket s, id) rl = i) (ho : Owns w (rixG b v rl)) :
    Fx Try.prog 22 [ptr b, str s, uv id] w (Ret w (rixG b v rl) (fun _ : Value => .int .i64 0) (fun v' => rixG b v' (rl.eraseIdx i)) (fun _ => True)) := by
  refine Fx.of Try.func22 rfl (by kernel_rfl) Try.ntmps22 rfl ho ?_
  have hb := idxOf_lt (bucket s, id) rl
  have hil : i < rl.length := by omega
  refine go (k := ?_)
  refine XL.call [0, 1] [] rfl rfl rfl rfl rfl (fun _ w _ ho => rat_ok b v rl s id w hs hl ho) fun _ _ => ?_
  rw [hm]
  refine XL.openSl (m := rl.length) (.tail _ (.head _)) (by decide) (by rw [rcells_len]) (by omega) (fun _ _ => .there .here) fun b1 cs cap hv hc hcl hct => ?_
  subst hv
  have hcut : ∀ j q, j + q ≤ rl.length → cut cs (0 + j * 2) (q * 2) = some (rcells ((rl.drop j).take q)) := by
    intro j q hjq
    have hle : rl.length * 2 ≤ cs.length := Nat.le_trans (Nat.mul_le_mul_right _ hc) hcl
    rw [cut_some (by omega), rcells_take _ _ (by simp; omega), rcells_drop _ _ (by omega), ← hct, rcells_len]
    congr 1
    rw [show 0 + j * 2 = j * 2 by omega, List.drop_take, List.take_take, Nat.min_eq_left (by omega)]
  refine go (k := ?_)
  have hr1 := hcut 0 i (by omega)
  rw [List.drop_zero] at hr1
  have hl1 : (rcells (rl.take i)).length = i * 2 := by rw [rcells_len, List.length_take, Nat.min_eq_left (by omega)]
  refine XL.make (.app (news := rcells (rl.take i)) rfl rfl rfl rfl rfl rfl (by decide) (.blk (.tail _ (.head _)) hl1.symm (by omega) (by rw [hl1]; exact hr1)) (rcells_one _) (by omega) (by omega)) rfl fun v1 H hH => ?_
  subst hH
  refine go (k := ?_)
  refine XL.q (.cutX (l := i + 1) (h := rl.length) (q := cap) rfl (.inl ⟨_, _, rfl, rfl⟩) (.inr ⟨rfl, rfl, rfl⟩) (.inr ⟨rfl, rfl⟩) rfl rfl (by omega) hc (Nat.le_refl _)) rfl ?_
  have hr2 := hcut (i + 1) (rl.length - (i + 1)) (by omega)
  rw [List.take_of_length_le (by simp)] at hr2
  have hl2 : (rcells (rl.drop (i + 1))).length = (rl.length - (i + 1)) * 2 := by rw [rcells_len, List.length_drop]
  refine XL.app (news := rcells (rl.drop (i + 1))) (L' := fun v' => [.sl v' 58 2 (rcells (rl.take i) ++ rcells (rl.drop (i + 1))), .blk b [.slice (some ⟨b1, 0, none⟩) rl.length cap] 33, .blk b1 cs 58])
    rfl rfl rfl rfl rfl rfl (by decide) (.head _) (.cut (.tail _ (.tail _ (.head _))) hl2.symm (by omega) (by omega) (by rw [hl2]; exact hr2)) (rcells_one _) (by omega) (by omega) (fun _ => .here) rfl fun v' => ?_
  rw [← rcells_app, ← List.eraseIdx_eq_take_drop_succ]
  refine XL.slv (.head _) fun ao' q' m' hv' _ _ => ?_
  subst hv'
  refine go (k := ?_)
  exact XE.ret1 (.slice ao' q' m') [1, 0] rfl rfl trivial rfl rfl rfl
end Go.X
