/- Package region: what has no line. -/
import Derived.Test.YtmmofanfgoahkaaDoorCodB
import Derived.Test.YtmmofanfgoahkaaDoorRep
namespace Go.X
open Go Go.Proofs
theorem Fx.ofDrew {P : Program} {f : FuncId} {fn : Func} {c : Code} {args : List Value} {w : World} {v : Value} (hf : P.funcs[f]? = some fn) (hb : fn.body = some c) (hname : (fn.name == "runtime.NumGoroutine") = false)
    (h : Calls P f args.toArray w fun e w' => e = .returned v ∧ (w' = w ∨ w' = w.drew)) : Fx P f args w (Pure w v) := by
  constructor
  · intro us w
    have hbn : fn.body.isNone = false := by rw [hb]; rfl
    simp only [callFunc, program, Sem.run_bind, Sem.run, Result.andThen, hf, hname, hbn, Bool.false_eq_true, if_false]
    rfl
  · refine h.mono fun e w' he => ?_
    obtain ⟨rfl, hk⟩ := he
    have hk' : Kept [] w w' := by
      rcases hk with rfl | rfl
      · exact .refl _ _
      · exact Kept.drawn [] w (w.drawn + 1)
    exact ⟨(), trivial, rfl, Owns.nil _, hk', fun b hb => by cases hb⟩
theorem trim_ok (l : List UInt8) (w : World) (h : l.length ≤ 1000000) : Fx Tryd.prog 68 [str l, str [0]] w (Pure w (str (Lib.trimB l 0))) :=
  Fx.ofDrew Tryd.func68 rfl (by kernel_rfl) (Tryd.strings_Trim_one ⟨⟨l⟩⟩ 0 (by decide) w (by show l.length ≤ _; omega))
theorem noughts_ok (n : Nat) (w : World) (h : n ≤ 1000000) : Fx Tryd.prog 42 [iv n] w (Pure w (str (zbytes n))) := by
  have hrep : ∀ w, Fx Tryd.prog 10 [str [0], iv n] w (Pure w (str (zbytes n))) := fun w => by
    have h := repeat_ok [0] n w (by simp; omega) (by omega)
    have e := Lib.repeatL_replicate 0 1 n
    rw [Nat.mul_one] at e
    rw [show List.replicate 1 (0 : UInt8) = [0] from rfl] at e
    rw [e] at h
    exact h
  refine Fx.of (L0 := []) Tryd.func42 rfl (by kernel_rfl) Tryd.ntmps42 rfl (Owns.nil w) ?_
  refine go (k := ?_)
  refine XL.q (.call rfl rfl fun _ w _ => hrep w) rfl ?_
  refine go (k := ?_)
  exact XE.ret1 () [] rfl rfl trivial rfl rfl rfl
/-- how many blocks a group of so many bytes needs -/
def nd (n : Nat) : Nat := if n ≤ 58 then 1 else (n - 1) / 58 + 1
theorem needs_ok (n : Nat) (w : World) (h : n ≤ 1000000) : Fx Tryd.prog 11 [iv n] w (Pure w (iv (nd n))) := by
  refine Fx.of (L0 := []) Tryd.func11 rfl (by kernel_rfl) Tryd.ntmps11 rfl (Owns.nil w) ?_
  by_cases h1 : n ≤ 58
  · have e : nd n = 1 := by unfold nd; rw [if_pos h1]
    rw [e]
    have h1' : (n : Int) ≤ 58 := by omega
    refine go (k := ?_)
    exact XE.ret1 () [] rfl rfl trivial rfl rfl rfl
  · have e : nd n = (n - 1) / 58 + 1 := by unfold nd; rw [if_neg h1]
    rw [e]
    have h1' : ¬ (n : Int) ≤ 58 := by omega
    refine go (k := ?_)
    refine XE.ret1 () [] rfl rfl trivial ?_ rfl rfl
    have : ((n : Int) - 1) / 58 + 1 = (((n - 1) / 58 + 1 : Nat) : Int) := by omega
    rw [this]
/-- the generation of a block; 0 if it is not whole -/
def hdr (s : List UInt8) : Nat :=
  if Lib.trimB (rfix (rfix (s, 0) (4 : Nat)).2 (56 : Nat)).1 0 = [] ∧ gnum (rfix (rfix (rfix (s, 0) (4 : Nat)).2 (56 : Nat)).2 (4 : Nat)).1 = gnum (rfix (s, 0) (4 : Nat)).1 then gnum (rfix (s, 0) (4 : Nat)).1 else 0
theorem rfix_rest (x : Rr) (n : Int) : (rfix x n).2.1.length ≤ x.1.length ∧ (rfix x n).1.length ≤ x.1.length := by
  unfold rfix
  split
  · exact ⟨Nat.le_refl _, Nat.zero_le _⟩
  · split
    · exact ⟨Nat.zero_le _, Nat.zero_le _⟩
    · simp only [List.length_take, List.length_drop]; omega
theorem header_ok (s : List UInt8) (w : World) (hs : s.length ≤ 1000) : Fx Tryd.prog 45 [str s] w (Pure w (.int .u32 (hdr s))) := by
  unfold hdr
  obtain ⟨a, ha⟩ : ∃ a, a = rfix (s, 0) (4 : Nat) := ⟨_, rfl⟩
  obtain ⟨m, hm⟩ : ∃ m, m = rfix a.2 (56 : Nat) := ⟨_, rfl⟩
  obtain ⟨c, hc⟩ : ∃ c, c = rfix m.2 (4 : Nat) := ⟨_, rfl⟩
  have la := rfix_rest (s, 0) (4 : Nat); have lm := rfix_rest a.2 (56 : Nat)
  rw [← ha] at la; rw [← hm] at lm
  simp only at la
  rw [← ha, ← hm, ← hc]
  refine Fx.of (L0 := []) Tryd.func45 rfl (by kernel_rfl) Tryd.ntmps45 rfl (Owns.nil w) ?_
  refine go (k := ?_)
  refine XL.call [] [] rfl rfl rfl rfl rfl (fun _ w _ _ => rnewr_ok s w) fun b _ => ?_
  refine go (k := ?_)
  refine XL.call [0] [] rfl rfl rfl rfl rfl (fun _ w _ ho => ru32_ok b (s, 0) w (by simp only; omega) ho) fun _ _ => ?_
  rw [← ha]
  refine XL.nm (M := [rrB b a.2]) ?_ rfl
  refine go (k := ?_)
  refine XL.call [0] [] rfl rfl rfl rfl rfl (fun _ w _ ho => rfixed_ok b a.2 (56 : Nat) w (by omega) ho) fun _ _ => ?_
  rw [← hm]
  refine XL.nm (M := [rrB b m.2]) ?_ rfl
  refine go (k := ?_)
  refine XL.q (.call rfl rfl fun _ w _ => trim_ok m.1 w (by omega)) rfl ?_
  by_cases ht : Lib.trimB m.1 0 = []
  · rw [ht]
    refine go (k := ?_)
    refine XL.call [0] [] rfl rfl rfl rfl rfl (fun _ w _ ho => ru32_ok b m.2 w (by omega) ho) fun _ _ => ?_
    rw [← hc]
    by_cases hg : gnum c.1 = gnum a.1
    · rw [if_pos ⟨rfl, hg⟩]
      have hg' : (gnum c.1 : Int) = (gnum a.1 : Int) := by rw [hg]
      rw [hg]
      refine go (k := ?_)
      exact XE.ret1 () [] rfl rfl trivial rfl rfl rfl
    · rw [if_neg (fun h => hg h.2)]
      have hg' : ¬ (gnum c.1 : Int) = (gnum a.1 : Int) := by omega
      refine go (k := ?_)
      exact XE.ret1 () [] rfl rfl trivial rfl rfl rfl
  · rw [if_neg (fun h => ht h.1)]
    refine go (k := ?_)
    exact XE.ret1 () [] rfl rfl trivial rfl rfl rfl
/-- what a log block of a number has: its text, whether a group ends with it, whether it is whole -/
def pce (i : Nat) (s : List UInt8) : List UInt8 × Bool × Bool :=
  let h := rfix (s, 0) (2 : Nat); let f := rfix h.2 (1 : Nat); let k := rfix f.2 (1 : Nat)
  if gnum h.1 ≠ i ∨ 1 < gnum f.1 ∨ 58 < gnum k.1 ∨ (gnum f.1 = 0 ∧ gnum k.1 < 58) then ([], false, false)
  else
    let t := rfix k.2 (gnum k.1 : Nat); let z := rfix t.2 (58 - gnum k.1 : Nat); let e := rfix z.2 (2 : Nat)
    (t.1, decide (gnum f.1 = 1), decide (gnum e.1 = i ∧ Lib.trimB z.1 0 = []))
set_option maxHeartbeats 1000000 in
theorem piece_ok (i : Nat) (s : List UInt8) (w : World) (_hi : i ≤ 1000000) (hs : s.length ≤ 1000) : Fx Tryd.prog 46 [iv i, str s] w (Pure w (.tuple #[str (pce i s).1, .bool (pce i s).2.1, .bool (pce i s).2.2])) := by
  unfold pce
  obtain ⟨h, hh⟩ : ∃ h, h = rfix (s, 0) (2 : Nat) := ⟨_, rfl⟩
  obtain ⟨f, hf⟩ : ∃ f, f = rfix h.2 (1 : Nat) := ⟨_, rfl⟩
  obtain ⟨k, hk⟩ : ∃ k, k = rfix f.2 (1 : Nat) := ⟨_, rfl⟩
  obtain ⟨t, ht⟩ : ∃ t, t = rfix k.2 (gnum k.1 : Nat) := ⟨_, rfl⟩
  obtain ⟨z, hz⟩ : ∃ z, z = rfix t.2 (58 - gnum k.1 : Nat) := ⟨_, rfl⟩
  obtain ⟨e, he⟩ : ∃ e, e = rfix z.2 (2 : Nat) := ⟨_, rfl⟩
  have lh := rfix_rest (s, 0) (2 : Nat); have lf := rfix_rest h.2 (1 : Nat); have lk := rfix_rest f.2 (1 : Nat); have lt := rfix_rest k.2 (gnum k.1 : Nat); have lz := rfix_rest t.2 (58 - gnum k.1 : Nat)
  rw [← hh] at lh; rw [← hf] at lf; rw [← hk] at lk; rw [← ht] at lt; rw [← hz] at lz
  simp only at lh
  simp only [← hh, ← hf, ← hk, ← ht, ← hz, ← he]
  have bh : gnum h.1 < 65536 := Nat.lt_of_lt_of_le (gnum_lt h.1) (Nat.pow_le_pow_right (by decide) (by rw [hh]; exact rfix_len (s, 0) 2) : 256 ^ h.1.length ≤ 256 ^ 2)
  have bf : gnum f.1 < 256 := Nat.lt_of_lt_of_le (gnum_lt f.1) (Nat.pow_le_pow_right (by decide) (by rw [hf]; exact rfix_len h.2 1) : 256 ^ f.1.length ≤ 256 ^ 1)
  have bk : gnum k.1 < 256 := Nat.lt_of_lt_of_le (gnum_lt k.1) (Nat.pow_le_pow_right (by decide) (by rw [hk]; exact rfix_len f.2 1) : 256 ^ k.1.length ≤ 256 ^ 1)
  have b2 : gnum e.1 < 65536 := Nat.lt_of_lt_of_le (gnum_lt e.1) (Nat.pow_le_pow_right (by decide) (by rw [he]; exact rfix_len z.2 2) : 256 ^ e.1.length ≤ 256 ^ 2)
  refine Fx.of (L0 := []) Tryd.func46 rfl (by kernel_rfl) Tryd.ntmps46 rfl (Owns.nil w) ?_
  refine go (k := ?_)
  refine XL.call [] [] rfl rfl rfl rfl rfl (fun _ w _ _ => rnewr_ok s w) fun b _ => ?_
  refine go (k := ?_)
  refine XL.call [0] [] rfl rfl rfl rfl rfl (fun _ w _ ho => ru16_ok b (s, 0) w (by simp only; omega) ho) fun _ _ => ?_
  rw [← hh]
  refine XL.nm (M := [rrB b h.2]) ?_ rfl
  refine go (k := ?_)
  refine XL.call [0] [] rfl rfl rfl rfl rfl (fun _ w _ ho => ru8_ok b h.2 w (by omega) ho) fun _ _ => ?_
  rw [← hf]
  refine XL.nm (M := [rrB b f.2]) ?_ rfl
  refine go (k := ?_)
  refine XL.call [0] [] rfl rfl rfl rfl rfl (fun _ w _ ho => ru8_ok b f.2 w (by omega) ho) fun _ _ => ?_
  rw [← hk]
  refine XL.nm (M := [rrB b k.2]) ?_ rfl
  refine go (k := ?_)
  by_cases hbad : gnum h.1 ≠ i ∨ 1 < gnum f.1 ∨ 58 < gnum k.1 ∨ (gnum f.1 = 0 ∧ gnum k.1 < 58)
  · simp only [if_pos hbad]
    by_cases c1 : (gnum h.1 : Int) = (i : Int)
    · by_cases c2 : (1 : Int) < (gnum f.1 : Int)
      · refine go (k := ?_)
        exact XE.ret3 () [] rfl rfl rfl rfl trivial rfl rfl rfl
      · by_cases c3 : (58 : Int) < (gnum k.1 : Int)
        · refine go (k := ?_)
          exact XE.ret3 () [] rfl rfl rfl rfl trivial rfl rfl rfl
        · have c4 : (gnum f.1 : Int) = 0 := by omega
          have c5 : (gnum k.1 : Int) < 58 := by omega
          refine go (k := ?_)
          exact XE.ret3 () [] rfl rfl rfl rfl trivial rfl rfl rfl
    · refine go (k := ?_)
      exact XE.ret3 () [] rfl rfl rfl rfl trivial rfl rfl rfl
  · simp only [if_neg hbad]
    have c1 : (gnum h.1 : Int) = (i : Int) := by omega
    have c2 : ¬ (1 : Int) < (gnum f.1 : Int) := by omega
    have c3 : ¬ (58 : Int) < (gnum k.1 : Int) := by omega
    by_cases c4 : (gnum f.1 : Int) = 0
    · have c5 : ¬ (gnum k.1 : Int) < 58 := by omega
      refine go (k := ?_)
      refine XL.call [0] [] rfl rfl rfl rfl rfl (fun _ w _ ho => rfixed_ok b k.2 (gnum k.1 : Nat) w (by omega) ho) fun _ _ => ?_
      rw [← ht]
      refine XL.nm (M := [rrB b t.2]) ?_ rfl
      refine go (k := ?_)
      rw [show (58 : Int) - (gnum k.1 : Int) = ((58 - gnum k.1 : Nat) : Int) by omega]
      refine XL.call [0] [] rfl rfl rfl rfl rfl (fun _ w _ ho => rfixed_ok b t.2 (58 - gnum k.1 : Nat) w (by omega) ho) fun _ _ => ?_
      rw [← hz]
      refine XL.nm (M := [rrB b z.2]) ?_ rfl
      refine go (k := ?_)
      refine XL.call [0] [] rfl rfl rfl rfl rfl (fun _ w _ ho => ru16_ok b z.2 w (by omega) ho) fun _ _ => ?_
      rw [← he]
      by_cases c6 : (gnum e.1 : Int) = (i : Int)
      · refine go (k := ?_)
        refine XL.q (.call rfl rfl fun _ w _ => trim_ok z.1 w (by omega)) rfl ?_
        refine go (k := ?_)
        refine XE.ret3 () [] rfl rfl rfl rfl trivial ?_ rfl rfl
        have c7 : gnum e.1 = i := by omega
        simp [c7]
        try omega
      · refine go (k := ?_)
        refine XE.ret3 () [] rfl rfl rfl rfl trivial ?_ rfl rfl
        have c7 : ¬ gnum e.1 = i := by omega
        simp [c7]
        try omega
    · refine go (k := ?_)
      refine XL.call [0] [] rfl rfl rfl rfl rfl (fun _ w _ ho => rfixed_ok b k.2 (gnum k.1 : Nat) w (by omega) ho) fun _ _ => ?_
      rw [← ht]
      refine XL.nm (M := [rrB b t.2]) ?_ rfl
      refine go (k := ?_)
      rw [show (58 : Int) - (gnum k.1 : Int) = ((58 - gnum k.1 : Nat) : Int) by omega]
      refine XL.call [0] [] rfl rfl rfl rfl rfl (fun _ w _ ho => rfixed_ok b t.2 (58 - gnum k.1 : Nat) w (by omega) ho) fun _ _ => ?_
      rw [← hz]
      refine XL.nm (M := [rrB b z.2]) ?_ rfl
      refine go (k := ?_)
      refine XL.call [0] [] rfl rfl rfl rfl rfl (fun _ w _ ho => ru16_ok b z.2 w (by omega) ho) fun _ _ => ?_
      rw [← he]
      by_cases c6 : (gnum e.1 : Int) = (i : Int)
      · refine go (k := ?_)
        refine XL.q (.call rfl rfl fun _ w _ => trim_ok z.1 w (by omega)) rfl ?_
        refine go (k := ?_)
        refine XE.ret3 () [] rfl rfl rfl rfl trivial ?_ rfl rfl
        have c7 : gnum e.1 = i := by omega
        simp [c7]
        try omega
      · refine go (k := ?_)
        refine XE.ret3 () [] rfl rfl rfl rfl trivial ?_ rfl rfl
        have c7 : ¬ gnum e.1 = i := by omega
        simp [c7]
        try omega
end Go.X
