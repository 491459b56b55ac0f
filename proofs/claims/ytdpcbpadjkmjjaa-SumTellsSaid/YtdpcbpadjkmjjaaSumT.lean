/- The statement SumTells. -/
import Derived.Test.YtdpcbpadjkmjjaaSumL
import Derived.Test.YtdpcbpadjkmjjaaMake
namespace Go.X
open Go Go.Proofs
theorem sumTells_ok (l : List UInt8) (hl : l.length ≤ 9223372036854775807) (p q : Int) (c : UInt8) (hp : 0 ≤ p ∧ p < 4294967296) (hq : 0 ≤ q ∧ q < 4294967296) (w : World) :
    Fx Try.prog 7 [str l, .agg #[u32 p, u32 q], u8v c.toNat] w (Pure w (.bool true)) := by
  obtain ⟨p0, p1⟩ := hp
  obtain ⟨q0, q1⟩ := hq
  have hc := byte_lt c
  refine Fx.of (L0 := []) Try.func7 rfl (by kernel_rfl) Try.ntmps7 rfl (Owns.nil w) ?_
  refine go (k := ?_)
  refine XL.box rfl rfl rfl fun b1 => ?_
  by_cases h : 131072 < l.length
  · refine go (k := ?_)
    refine XL.q (.call rfl rfl fun _ w _ => sworks_ok w) rfl ?_
    refine go (k := ?_)
    exact XE.ret1 () [] rfl rfl trivial rfl rfl rfl
  by_cases h' : l.length = 0
  · refine go (k := ?_)
    refine XL.q (.call rfl rfl fun _ w _ => sworks_ok w) rfl ?_
    refine go (k := ?_)
    exact XE.ret1 () [] rfl rfl trivial rfl rfl rfl
  have hl0 : 0 < (l.length : Int) := by omega
  -- the two places
  have hp2 := Int.emod_nonneg p (show (l.length : Int) ≠ 0 by omega)
  have hq2 := Int.emod_nonneg q (show (l.length : Int) ≠ 0 by omega)
  have hp3 := Int.emod_lt_of_pos p hl0
  have hq3 := Int.emod_lt_of_pos q hl0
  obtain ⟨i, hi⟩ : ∃ i : Nat, (if q % (l.length : Int) < p % (l.length : Int) then q % (l.length : Int) else p % (l.length : Int)) = (i : Int) := ⟨(if q % (l.length : Int) < p % (l.length : Int) then q % (l.length : Int) else p % (l.length : Int)).toNat, by split <;> omega⟩
  obtain ⟨j, hj⟩ : ∃ j : Nat, (if p % (l.length : Int) < q % (l.length : Int) then q % (l.length : Int) else p % (l.length : Int)) = (j : Int) := ⟨(if p % (l.length : Int) < q % (l.length : Int) then q % (l.length : Int) else p % (l.length : Int)).toNat, by split <;> omega⟩
  have hij : i ≤ j := by split at hi <;> split at hj <;> omega
  have hi2 : i < l.length := by split at hi <;> omega
  have hj2 : j < l.length := by split at hj <;> omega
  obtain ⟨x, hx⟩ : ∃ x, l[i]? = some x := ⟨_, List.getElem?_eq_getElem hi2⟩
  obtain ⟨y, hy⟩ : ∃ y, l[j]? = some y := ⟨_, List.getElem?_eq_getElem hj2⟩
  have hbx := byte_lt x
  have hby := byte_lt y
  refine go (k := ?_)
  rw [hi, hj]
  refine go (k := ?_)
  refine XD.make (.bslice rfl rfl rfl rfl rfl rfl) rfl rfl ?_
  refine XD.look (v := str [c]) (.head _) rfl (fun u H hu => ?_) rfl ?_
  · obtain ⟨b, rfl, rfl⟩ := hu
    exact .bytesStr (m := 1) (l := [c]) rfl rfl rfl rfl (.blk (.head _) rfl (by decide) rfl)
  refine go (k := ?_)
  refine XD.nilF (by decide +kernel) ?_
  refine go (k := ?_)
  have e1 : l = l.take i ++ [x] ++ l.drop (i + 1) := by
    have h1 : i < l.length := hi2
    have h2 : l[i] = x := (List.getElem?_eq_some_iff.1 hx).2
    rw [← h2, List.append_assoc, List.singleton_append, List.getElem_cons_drop, List.take_append_drop]
  have t1 : upd2 1 (l.take i ++ [c] ++ l.drop (i + 1)) = upd2 1 l ↔ x = c := by
    have := tells_one (l.take i) (l.drop (i + 1)) x c
    rwa [← e1] at this
  have hxc : (x = c) ↔ ((x.toNat : Int) = (c.toNat : Int)) := ⟨fun h => by rw [h], fun h => UInt8.toNat_inj.1 (by omega)⟩
  have hl1 : (l.take i ++ [c] ++ l.drop (i + 1)).length ≤ 9223372036854775807 := by simp only [List.length_append, List.length_take, List.length_drop, List.length_cons, List.length_nil]; omega
  refine XD.q (.call rfl rfl fun _ w _ => sum_ok _ hl1 w) rfl ?_
  refine go (k := ?_)
  refine XD.q (.call rfl rfl fun _ w _ => sum_ok l hl w) rfl ?_
  refine go (k := ?_)
  refine XC.condF rfl (by simp only [t1.trans hxc]; cases decide ((x.toNat : Int) = c.toNat) <;> rfl) ?_
  by_cases hne : (i : Int) = (j : Int)
  · refine go (k := ?_)
    refine XL.q (.call rfl rfl fun _ w _ => sworks_ok w) rfl ?_
    refine go (k := ?_)
    exact XE.ret1 () [] rfl rfl trivial rfl rfl rfl
  by_cases hfar : (j : Int) - (i : Int) > 256
  · refine go (k := ?_)
    refine XL.q (.call rfl rfl fun _ w _ => sworks_ok w) rfl ?_
    refine go (k := ?_)
    exact XE.ret1 () [] rfl rfl trivial rfl rfl rfl
  refine go (k := ?_)
  have hl2 : (l.take i ++ (l.take (j + 1)).drop j ++ (l.take j).drop (i + 1) ++ (l.take (i + 1)).drop i ++ l.drop (j + 1)).length ≤ 9223372036854775807 := by simp only [List.length_append, List.length_take, List.length_drop]; omega
  have hlt : i < j := by omega
  have f1 : (l.take (j + 1)).drop j = [y] := by
    have h2 : l[j] = y := (List.getElem?_eq_some_iff.1 hy).2
    rw [List.take_succ_eq_append_getElem hj2, List.drop_append_of_le_length (by simp; omega), List.drop_of_length_le (by simp only [List.length_take]; omega), h2]; rfl
  have f2 : (l.take (i + 1)).drop i = [x] := by
    have h2 : l[i] = x := (List.getElem?_eq_some_iff.1 hx).2
    rw [List.take_succ_eq_append_getElem hi2, List.drop_append_of_le_length (by simp; omega), List.drop_of_length_le (by simp only [List.length_take]; omega), h2]; rfl
  have f3 : l = l.take i ++ [x] ++ (l.take j).drop (i + 1) ++ [y] ++ l.drop (j + 1) := by
    have g1 : l = l.take j ++ l.drop j := (List.take_append_drop j l).symm
    have g2 : l.drop j = [y] ++ l.drop (j + 1) := by
      have h2 : l[j] = y := (List.getElem?_eq_some_iff.1 hy).2
      rw [← h2, List.singleton_append, List.getElem_cons_drop]
    have g3 : l.take j = l.take i ++ [x] ++ (l.take j).drop (i + 1) := by
      have h3 : (l.take j).take (i + 1) = l.take i ++ [x] := by
        have h2 : l[i] = x := (List.getElem?_eq_some_iff.1 hx).2
        rw [List.take_take, Nat.min_eq_left (by omega), List.take_succ_eq_append_getElem hi2, h2]
      rw [← h3, List.take_append_drop]
    rw [List.append_assoc (l.take i ++ [x] ++ (l.take j).drop (i + 1)), ← g2, ← g3, ← g1]
  have t2 : upd2 1 (l.take i ++ (l.take (j + 1)).drop j ++ (l.take j).drop (i + 1) ++ (l.take (i + 1)).drop i ++ l.drop (j + 1)) = upd2 1 l ↔ x = y := by
    have := tells_two (l.take i) ((l.take j).drop (i + 1)) (l.drop (j + 1)) x y (by simp only [List.length_drop, List.length_take]; omega)
    rw [← f3] at this
    rw [f1, f2]
    exact this
  have hxy : (x = y) ↔ ((x.toNat : Int) = (y.toNat : Int)) := ⟨fun h => by rw [h], fun h => UInt8.toNat_inj.1 (by omega)⟩
  refine XD.q (.call rfl rfl fun _ w _ => sum_ok _ hl2 w) rfl ?_
  refine go (k := ?_)
  refine XD.q (.call rfl rfl fun _ w _ => sum_ok l hl w) rfl ?_
  refine go (k := ?_)
  refine XL.guardY rfl rfl (by simp only [t2.trans hxy, beq_self_eq_true]) ?_
  refine XL.q (.call rfl rfl fun _ w _ => sworks_ok w) rfl ?_
  refine XL.q (.pickT rfl (by simp only [t2.trans hxy, beq_self_eq_true]) rfl) rfl ?_
  refine go (k := ?_)
  exact XE.ret1 () [] rfl rfl trivial rfl rfl rfl
end Go.X
