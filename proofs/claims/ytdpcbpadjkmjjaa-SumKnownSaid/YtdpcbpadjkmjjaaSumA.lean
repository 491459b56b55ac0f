/- Package sum and its reference: what each function computes. -/
import Derived.Test.YtdpcbpadjkmjjaaTab
import Derived.Test.YtdpcbpadjkmjjaaSumP
namespace Go.X
open Go Go.Proofs
abbrev u64 (x : Int) : Value := .int .u64 x
abbrev u32 (x : Int) : Value := .int .u32 x
abbrev i64 (x : Int) : Value := .int .i64 x
abbrev u8v (x : Int) : Value := .int .u8 x
abbrev ptr (b : Nat) : Value := .pointer (some ⟨b, 0, none⟩)
/-- a function that only computes -/
abbrev Pure (w : World) (v : Value) : Ending → World → Prop := Ret w [] (fun _ : Unit => v) (fun _ => []) (fun _ => True)

theorem says_ok (x : Int) (h0 : 0 ≤ x) (h1 : x < 4294967296) (w : World) : Fx Try.prog 17 [u32 x] w (Pure w (.agg #[u64 (says2 x).1, u64 (says2 x).2])) := by
  refine Fx.of (L0 := []) Try.func17 rfl (by kernel_rfl) Try.ntmps17 rfl (Owns.nil w) ?_
  refine go (k := ?_)
  refine XL.alloc rfl rfl rfl fun b1 => ?_
  refine go (k := ?_)
  exact XE.retC () [] rfl rfl rfl rfl rfl (by repeat (first | exact .head _ | refine .tail _ ?_)) rfl trivial rfl rfl rfl
theorem bits_or {p : Int × Int} (h : ok2 p) : bitsOp .or .u32 (p.2 * 65536) p.1 = num2 p := by
  obtain ⟨x, y⟩ := p
  obtain ⟨h0, h1, h2, h3⟩ := h
  simp only at h0 h1 h2 h3
  obtain ⟨a, rfl⟩ := Int.eq_ofNat_of_zero_le h0
  obtain ⟨b, rfl⟩ := Int.eq_ofNat_of_zero_le h2
  have hor : b <<< 16 + a = b <<< 16 ||| a := Nat.shiftLeft_add_eq_or_of_lt (i := 16) (by omega) b
  have h5 : (BitVec.ofInt 32 ((b : Int) * 65536) ||| BitVec.ofInt 32 (a : Int)).toNat = b * 65536 + a := by
    rw [show ((b : Int) * 65536) = ((b * 65536 : Nat) : Int) by omega, BitVec.ofInt_natCast, BitVec.ofInt_natCast, BitVec.toNat_or, BitVec.toNat_ofNat, BitVec.toNat_ofNat, Nat.mod_eq_of_lt (by omega), Nat.mod_eq_of_lt (by omega)]
    rw [Nat.shiftLeft_eq] at hor
    simpa using hor.symm
  show IntKind.u32.wrap _ = _
  rw [wrap_u32]
  show ((BitVec.ofInt 32 ((b : Int) * 65536) ||| BitVec.ofInt 32 (a : Int)).toNat : Int) % 4294967296 = _
  rw [h5]
  simp only [num2]
  omega
theorem number_ok (p : Int × Int) (h : ok2 p) (w : World) : Fx Try.prog 20 [.agg #[u64 p.1, u64 p.2]] w (Pure w (u32 (num2 p))) := by
  obtain ⟨h0, h1, h2, h3⟩ := id h
  refine Fx.of (L0 := []) Try.func20 rfl (by kernel_rfl) Try.ntmps20 rfl (Owns.nil w) ?_
  refine go (k := ?_)
  refine XL.box rfl rfl rfl fun b1 => ?_
  refine go (k := ?_)
  exact XE.ret1 () [] rfl rfl trivial (by rw [bits_or h]) rfl rfl
theorem add_ok (b : Nat) (p : Int × Int) (c : UInt8) (h : ok2 p) (w : World) (ho : Owns w [.blk b [u64 p.1, u64 p.2] 38]) :
    Fx Try.prog 19 [ptr b, u8v c.toNat] w (Ret w [.blk b [u64 p.1, u64 p.2] 38] (fun _ : Unit => .tuple #[]) (fun _ => [.blk b [u64 (step2 p c).1, u64 (step2 p c).2] 38]) (fun _ => True)) := by
  obtain ⟨h0, h1, h2, h3⟩ := h
  have hc := byte_lt c
  refine Fx.of Try.func19 rfl (by kernel_rfl) Try.ntmps19 rfl ho ?_
  refine go (k := ?_)
  exact XE.end0 () [0] rfl trivial rfl rfl rfl
theorem each_add (l : List UInt8) (b : Nat) (p : Int × Int) (hp : ok2 p) (hl : l.length ≤ 9223372036854775807) (w : World) (ho : Owns w [.blk b [u64 p.1, u64 p.2] 38]) :
    Fx Try.prog 18 [str l, .func (.func 19) #[ptr b] #[]] w (Ret w [.blk b [u64 p.1, u64 p.2] 38] (fun _ : Unit => .tuple #[]) (fun _ => [.blk b [u64 (run2 p l).1, u64 (run2 p l).2] 38]) (fun _ => True)) := by
  refine Fx.of Try.func18 rfl (by kernel_rfl) Try.ntmps18 rfl ho ?_
  refine go (k := ?_)
  refine XC.loop (α := Nat) (fun k => [(0, str l), (1, .func (.func 19) #[ptr b] #[]), (6, i64 l.length), (7, i64 k)]) (fun k => [.blk b [u64 (run2 p (l.take k)).1, u64 (run2 p (l.take k)).2] 38])
    (fun k => k ≤ l.length) (fun k => l.length - k) 0 [0] (Nat.zero_le _) ⟨rfl, rfl, rfl, rfl, trivial⟩ rfl rfl ?_
  intro k hk
  by_cases hlt : k < l.length
  · obtain ⟨c, hc⟩ : ∃ c, l[k]? = some c := ⟨_, List.getElem?_eq_getElem hlt⟩
    refine go (k := ?_)
    refine XL.call [0] [] rfl rfl rfl rfl rfl (fun _ w _ ho => add_ok b _ c (run2_ok hp _) w ho) fun _ _ => ?_
    refine go (k := ?_)
    refine XE.mid (k + 1) [0] ⟨by omega, by omega⟩ ⟨rfl, rfl, rfl, rfl, trivial⟩ rfl ?_
    rw [stake_snoc hc, run2_snoc]; rfl
  · have hk' : k = l.length := by omega
    subst hk'
    rw [List.take_length]
    refine go (k := ?_)
    exact XE.end0 () [0] rfl trivial rfl rfl rfl
theorem update_ok (x : Int) (h0 : 0 ≤ x) (h1 : x < 4294967296) (l : List UInt8) (hl : l.length ≤ 9223372036854775807) (w : World) : Fx Try.prog 12 [u32 x, str l] w (Pure w (u32 (upd2 x l))) := by
  refine Fx.of (L0 := []) Try.func12 rfl (by kernel_rfl) Try.ntmps12 rfl (Owns.nil w) ?_
  refine go (k := ?_)
  refine XL.q (.call rfl rfl fun _ w _ => says_ok x h0 h1 w) rfl ?_
  refine XL.alloc rfl rfl rfl fun b => ?_
  refine go (k := ?_)
  refine XL.call [0] [] rfl rfl rfl rfl rfl (fun _ w _ ho => each_add l b (says2 x) (says2_ok h0 h1) hl w ho) fun _ _ => ?_
  refine go (k := ?_)
  refine XL.q (.call rfl rfl fun _ w _ => number_ok _ (run2_ok (says2_ok h0 h1) l) w) rfl ?_
  refine go (k := ?_)
  exact XE.ret1 () [] rfl rfl trivial rfl rfl rfl
theorem sum_ok (l : List UInt8) (hl : l.length ≤ 9223372036854775807) (w : World) : Fx Try.prog 10 [str l] w (Pure w (u32 (upd2 1 l))) := by
  refine Fx.of (L0 := []) Try.func10 rfl (by kernel_rfl) Try.ntmps10 rfl (Owns.nil w) ?_
  refine go (k := ?_)
  refine XL.q (.call rfl rfl fun _ w _ => update_ok 1 (by decide) (by decide) l hl w) rfl ?_
  refine go (k := ?_)
  exact XE.ret1 () [] rfl rfl trivial rfl rfl rfl
theorem join_ok (a b n : Int) (h0 : 0 ≤ a) (h1 : a < 4294967296) (h2 : 0 ≤ b) (h3 : b < 4294967296) (h4 : -9223372036854775808 ≤ n) (h5 : n ≤ 9223372036854775807) (w : World) :
    Fx Try.prog 14 [u32 a, u32 b, i64 n] w (Pure w (u32 (num2 (join2 a b n)))) := by
  have ha := says2_ok h0 h1
  have hb := says2_ok h2 h3
  obtain ⟨ha0, ha1, ha2, ha3⟩ := ha
  obtain ⟨hb0, hb1, hb2, hb3⟩ := hb
  have hm := mul_bd (x := (if 0 < n then n else 0) % 65535) (y := ((says2 a).1 + 65535 - 1) % 65535) (by omega) (by omega) (by omega) (by omega)
  refine Fx.of (L0 := []) Try.func14 rfl (by kernel_rfl) Try.ntmps14 rfl (Owns.nil w) ?_
  refine go (k := ?_)
  refine XL.q (.call rfl rfl fun _ w _ => says_ok a h0 h1 w) rfl ?_
  refine go (k := ?_)
  refine XL.q (.call rfl rfl fun _ w _ => says_ok b h2 h3 w) rfl ?_
  refine XL.alloc rfl rfl rfl fun b1 => ?_
  refine XL.alloc rfl rfl rfl fun b2 => ?_
  refine go (k := ?_)
  refine XL.q (.call rfl rfl fun _ w _ => number_ok (join2 a b n) (join2_ok a b n) w) rfl ?_
  refine go (k := ?_)
  exact XE.ret1 () [] rfl rfl trivial rfl rfl rfl

/-! ### the reference -/
theorem rupdate_ok (x : Int) (h0 : 0 ≤ x) (h1 : x < 4294967296) (l : List UInt8) (hl : l.length ≤ 9223372036854775807) (w : World) : Fx Try.prog 13 [u32 x, str l] w (Pure w (u32 (upd2 x l))) := by
  refine Fx.of (L0 := []) Try.func13 rfl (by kernel_rfl) Try.ntmps13 rfl (Owns.nil w) ?_
  refine go (k := ?_)
  refine XC.via (α := Unit) (fun _ => [(1, str l), (5, i64 (says2 x).1), (6, i64 (x / 65536))]) (fun _ => []) (fun _ => True) ?_ fun _ _ => ?_
  · refine XC.condP rfl (fun h => ?_) (fun h => ?_)
    all_goals refine go (k := ?_)
    · exact XE.mid () [] trivial ⟨rfl, gi rfl (by simp only [says2]; omega), rfl, trivial⟩ rfl rfl
    · exact XE.mid () [] trivial ⟨rfl, gi rfl (by simp only [says2]; omega), rfl, trivial⟩ rfl rfl
  refine go (k := ?_)
  refine XC.via (α := Unit) (fun _ => [(1, str l), (5, i64 (says2 x).1), (6, i64 (says2 x).2)]) (fun _ => []) (fun _ => True) ?_ fun _ _ => ?_
  · refine XC.condP rfl (fun h => ?_) (fun h => ?_)
    all_goals refine go (k := ?_)
    · exact XE.mid () [] trivial ⟨rfl, rfl, gi rfl (by simp only [says2]; omega), trivial⟩ rfl rfl
    · exact XE.mid () [] trivial ⟨rfl, rfl, gi rfl (by simp only [says2]; omega), trivial⟩ rfl rfl
  refine go (k := ?_)
  refine XC.loop (α := Nat) (fun k => [(1, str l), (5, i64 (run2 (says2 x) (l.take k)).1), (6, i64 (run2 (says2 x) (l.take k)).2), (7, i64 k)]) (fun _ => [])
    (fun k => k ≤ l.length) (fun k => l.length - k) 0 [] (Nat.zero_le _) ⟨rfl, rfl, rfl, rfl, trivial⟩ rfl rfl ?_
  intro k hk
  have hr := run2_ok (says2_ok h0 h1) (l.take k)
  obtain ⟨hr0, hr1, hr2, hr3⟩ := hr
  by_cases hlt : k < l.length
  · obtain ⟨c, hc⟩ : ∃ c, l[k]? = some c := ⟨_, List.getElem?_eq_getElem hlt⟩
    have hb := byte_lt c
    refine go (k := ?_)
    refine XE.mid (k + 1) [] ⟨by omega, by omega⟩ ?_ rfl rfl
    rw [stake_snoc hc, run2_snoc]
    exact ⟨rfl, rfl, rfl, rfl, trivial⟩
  · have hk' : k = l.length := by omega
    subst hk'
    rw [List.take_length] at hr0 hr1 hr2 hr3 ⊢
    refine go (k := ?_)
    exact XE.ret1 () [] rfl rfl trivial rfl rfl rfl
theorem rsum_ok (l : List UInt8) (hl : l.length ≤ 9223372036854775807) (w : World) : Fx Try.prog 11 [str l] w (Pure w (u32 (upd2 1 l))) := by
  refine Fx.of (L0 := []) Try.func11 rfl (by kernel_rfl) Try.ntmps11 rfl (Owns.nil w) ?_
  refine go (k := ?_)
  refine XL.q (.call rfl rfl fun _ w _ => rupdate_ok 1 (by decide) (by decide) l hl w) rfl ?_
  refine go (k := ?_)
  exact XE.ret1 () [] rfl rfl trivial rfl rfl rfl
theorem upd2_nil {x : Int} : upd2 x [] = num2 (says2 x) := rfl
theorem rjoin_ok (a b n : Int) (h0 : 0 ≤ a) (h1 : a < 4294967296) (h2 : 0 ≤ b) (h3 : b < 4294967296) (h4 : -9223372036854775808 ≤ n) (h5 : n ≤ 9223372036854775807) (w : World) :
    Fx Try.prog 15 [u32 a, u32 b, i64 n] w (Pure w (u32 (num2 (join2 a b n)))) := by
  have ha := says2_ok h0 h1
  have hb := says2_ok h2 h3
  obtain ⟨ha0, ha1, ha2, ha3⟩ := ha
  obtain ⟨hb0, hb1, hb2, hb3⟩ := hb
  have hua := upd2_lt h0 h1 []
  have hub := upd2_lt h2 h3 []
  refine Fx.of (L0 := []) Try.func15 rfl (by kernel_rfl) Try.ntmps15 rfl (Owns.nil w) ?_
  refine go (k := ?_)
  refine XC.via (α := Unit) (fun _ => [(0, u32 a), (1, u32 b), (2, i64 (nat0 n))]) (fun _ => []) (fun _ => True) ?_ fun _ _ => ?_
  · refine XC.condP rfl (fun h => ?_) (fun h => ?_)
    all_goals refine go (k := ?_)
    · exact XE.mid () [] trivial ⟨rfl, rfl, gi rfl (by simp only [nat0]; split <;> omega), trivial⟩ rfl rfl
    · exact XE.mid () [] trivial ⟨rfl, rfl, gi rfl (by simp only [nat0]; split <;> omega), trivial⟩ rfl rfl
  refine go (k := ?_)
  refine XL.q (.call rfl rfl fun _ w _ => rupdate_ok a h0 h1 [] (by decide) w) rfl ?_
  refine go (k := ?_)
  refine XL.q (.call rfl rfl fun _ w _ => rupdate_ok b h2 h3 [] (by decide) w) rfl ?_
  obtain ⟨A, hA⟩ : ∃ A, upd2 a [] = A := ⟨_, rfl⟩
  obtain ⟨C, hC⟩ : ∃ C, upd2 b [] = C := ⟨_, rfl⟩
  have hA1 : (says2 a).1 = A % 65536 := by rw [← hA, upd2_nil]; simp only [num2]; omega
  have hA2 : (says2 a).2 = A / 65536 := by rw [← hA, upd2_nil]; simp only [num2]; omega
  have hC1 : (says2 b).1 = C % 65536 := by rw [← hC, upd2_nil]; simp only [num2]; omega
  have hC2 : (says2 b).2 = C / 65536 := by rw [← hC, upd2_nil]; simp only [num2]; omega
  rw [hA, hC]
  rw [hA] at hua
  rw [hC] at hub
  obtain ⟨m, hm, hm0, hm1⟩ : ∃ m, nat0 n = m ∧ 0 ≤ m ∧ m ≤ 9223372036854775807 := ⟨_, rfl, by simp only [nat0]; split <;> omega, by simp only [nat0]; split <;> omega⟩
  have hj : join2 a b n = ((A % 65536 + 65534 + C % 65536) % 65535, (A / 65536 + C / 65536 + m % 65535 * ((A % 65536 + 65534) % 65535)) % 65535) := by
    simp only [join2, hA1, hA2, hC1, hC2, hm, show A % 65536 + 65535 - 1 = A % 65536 + 65534 by omega]
  rw [hj, hm]
  have hmm := mul_bd (x := m % 65535) (y := (A % 65536 + 65534) % 65535) (by omega) (by omega) (by omega) (by omega)
  refine go (k := ?_)
  exact XE.ret1 () [] rfl rfl trivial rfl rfl rfl
end Go.X
