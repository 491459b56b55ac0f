/- The statements on package sum: each call returns true. -/
import Derived.Test.YtdpcbpadjkmjjaaSumA
namespace Go.X
open Go Go.Proofs
theorem swork1 : upd2 1 [97, 98, 99] = 38600999 := by decide +kernel
theorem swork2 : upd2 38600999 [100] = 64487819 := by decide +kernel
theorem swork3 : num2 (join2 38600999 (upd2 1 [100]) 1) = 64487819 := by decide +kernel
theorem sworks_ok (w : World) : Fx Try.prog 9 [] w (Pure w (.bool true)) := by
  refine Fx.of (L0 := []) Try.func9 rfl (by kernel_rfl) Try.ntmps9 rfl (Owns.nil w) ?_
  refine go (k := ?_)
  refine XL.q (.call (v := u32 38600999) rfl rfl fun _ w _ => (swork1 ▸ sum_ok [97, 98, 99] (by decide) w)) rfl ?_
  refine go (k := ?_)
  refine XL.q (.call (v := u32 64487819) rfl rfl fun _ w _ => (swork2 ▸ update_ok 38600999 (by decide) (by decide) [100] (by decide) w)) rfl ?_
  refine go (k := ?_)
  refine XL.q (.call rfl rfl fun _ w _ => sum_ok [100] (by decide) w) rfl ?_
  refine go (k := ?_)
  have h := upd2_lt (n := 1) (by decide) (by decide) [100]
  refine XL.q (.call (v := u32 64487819) rfl rfl fun _ w _ => (swork3 ▸ join_ok 38600999 (upd2 1 [100]) 1 (by decide) (by decide) h.1 h.2 (by decide) (by decide) w)) rfl ?_
  refine go (k := ?_)
  exact XE.ret1 () [] rfl rfl trivial rfl rfl rfl

theorem sumTexts_ok (l : List UInt8) (x : Int) (hl : l.length ≤ 9223372036854775807) (h0 : 0 ≤ x) (h1 : x < 4294967296) (w : World) : Fx Try.prog 3 [str l, u32 x] w (Pure w (.bool true)) := by
  refine Fx.of (L0 := []) Try.func3 rfl (by kernel_rfl) Try.ntmps3 rfl (Owns.nil w) ?_
  by_cases h : 131072 < l.length
  · refine go (k := ?_)
    refine XL.q (.call rfl rfl fun _ w _ => sworks_ok w) rfl ?_
    refine go (k := ?_)
    exact XE.ret1 () [] rfl rfl trivial rfl rfl rfl
  · refine go (k := ?_)
    refine XL.q (.call rfl rfl fun _ w _ => sum_ok l hl w) rfl ?_
    refine go (k := ?_)
    refine XL.q (.call rfl rfl fun _ w _ => rsum_ok l hl w) rfl ?_
    refine go (k := ?_)
    refine XL.q (.call rfl rfl fun _ w _ => update_ok x h0 h1 l hl w) rfl ?_
    refine go (k := ?_)
    refine XL.q (.call rfl rfl fun _ w _ => rupdate_ok x h0 h1 l hl w) rfl ?_
    refine go (k := ?_)
    refine XL.q (.call rfl rfl fun _ w _ => sworks_ok w) rfl ?_
    refine go (k := ?_)
    exact XE.ret1 () [] rfl rfl trivial rfl rfl rfl
theorem sumJoins_ok (a b n : Int) (h0 : 0 ≤ a) (h1 : a < 4294967296) (h2 : 0 ≤ b) (h3 : b < 4294967296) (h4 : -9223372036854775808 ≤ n) (h5 : n ≤ 9223372036854775807) (w : World) :
    Fx Try.prog 4 [u32 a, u32 b, i64 n] w (Pure w (.bool true)) := by
  refine Fx.of (L0 := []) Try.func4 rfl (by kernel_rfl) Try.ntmps4 rfl (Owns.nil w) ?_
  refine go (k := ?_)
  refine XL.q (.call rfl rfl fun _ w _ => join_ok a b n h0 h1 h2 h3 h4 h5 w) rfl ?_
  refine go (k := ?_)
  refine XL.q (.call rfl rfl fun _ w _ => rjoin_ok a b n h0 h1 h2 h3 h4 h5 w) rfl ?_
  refine go (k := ?_)
  refine XL.q (.call rfl rfl fun _ w _ => sworks_ok w) rfl ?_
  refine go (k := ?_)
  exact XE.ret1 () [] rfl rfl trivial rfl rfl rfl
theorem sumBoth_ok (s t : List UInt8) (hs : s.length ≤ 9223372036854775807) (ht : t.length ≤ 9223372036854775807) (w : World) : Fx Try.prog 5 [str s, str t] w (Pure w (.bool true)) := by
  refine Fx.of (L0 := []) Try.func5 rfl (by kernel_rfl) Try.ntmps5 rfl (Owns.nil w) ?_
  by_cases h : 131072 < s.length
  · refine go (k := ?_)
    refine XL.q (.call rfl rfl fun _ w _ => sworks_ok w) rfl ?_
    refine go (k := ?_)
    exact XE.ret1 () [] rfl rfl trivial rfl rfl rfl
  by_cases h' : 131072 < t.length
  · refine go (k := ?_)
    refine XL.q (.call rfl rfl fun _ w _ => sworks_ok w) rfl ?_
    refine go (k := ?_)
    exact XE.ret1 () [] rfl rfl trivial rfl rfl rfl
  have hst := upd2_lt (n := 1) (by decide) (by decide) s
  have htt := upd2_lt (n := 1) (by decide) (by decide) t
  have e1 := upd2_app (n := 1) (by decide) (by decide) s t
  have e2 : num2 (join2 (upd2 1 s) (upd2 1 t) t.length) = upd2 1 (s ++ t) := by rw [join2_sums]; rfl
  refine go (k := ?_)
  refine XL.q (.call rfl rfl fun _ w _ => sum_ok (s ++ t) (by simp only [List.length_append]; omega) w) rfl ?_
  refine go (k := ?_)
  refine XL.q (.call rfl rfl fun _ w _ => sum_ok s hs w) rfl ?_
  refine go (k := ?_)
  refine XL.q (.call rfl rfl fun _ w _ => (e1 ▸ update_ok (upd2 1 s) hst.1 hst.2 t ht w)) rfl ?_
  refine go (k := ?_)
  refine XL.q (.call rfl rfl fun _ w _ => sum_ok s hs w) rfl ?_
  refine go (k := ?_)
  refine XL.q (.call rfl rfl fun _ w _ => sum_ok t ht w) rfl ?_
  refine go (k := ?_)
  refine XL.q (.call rfl rfl fun _ w _ => (e2 ▸ join_ok (upd2 1 s) (upd2 1 t) t.length hst.1 hst.2 htt.1 htt.2 (by omega) (by omega) w)) rfl ?_
  refine go (k := ?_)
  refine XL.q (.call rfl rfl fun _ w _ => sworks_ok w) rfl ?_
  refine go (k := ?_)
  exact XE.ret1 () [] rfl rfl trivial rfl rfl rfl
theorem sumOrder_ok (a b c m n : Int) (ha : 0 ≤ a ∧ a < 4294967296) (hb : 0 ≤ b ∧ b < 4294967296) (hc : 0 ≤ c ∧ c < 4294967296) (hm : 0 ≤ m ∧ m ≤ 18446744073709551615) (hn : 0 ≤ n ∧ n ≤ 18446744073709551615) (w : World) :
    Fx Try.prog 6 [.agg #[u32 a, u32 b, u32 c], u64 m, u64 n] w (Pure w (.bool true)) := by
  obtain ⟨a0, a1⟩ := ha
  obtain ⟨b0, b1⟩ := hb
  obtain ⟨c0, c1⟩ := hc
  obtain ⟨m0, m1⟩ := hm
  obtain ⟨n0, n1⟩ := hn
  refine Fx.of (L0 := []) Try.func6 rfl (by kernel_rfl) Try.ntmps6 rfl (Owns.nil w) ?_
  have h1 := num2_lt (join2_ok a b (m % 1099511627776))
  have h2 := num2_lt (join2_ok b c (n % 1099511627776))
  have e := join2_assoc (a := a) (b := b) (c := c) (k := m % 1099511627776) (l := n % 1099511627776) (by omega) (by omega)
  refine go (k := ?_)
  refine XL.box rfl rfl rfl fun bx => ?_
  refine go (k := ?_)
  refine XD.q (v := u32 (num2 (join2 a b (m % 1099511627776)))) ?_ rfl ?_
  · exact (.call rfl rfl fun _ w _ => join_ok a b (m % 1099511627776) a0 a1 b0 b1 (by omega) (by omega) w)
  refine go (k := ?_)
  refine XD.q (.call rfl rfl fun _ w _ => join_ok _ c (n % 1099511627776) h1.1 h1.2 c0 c1 (by omega) (by omega) w) rfl ?_
  refine go (k := ?_)
  refine XD.q (.call rfl rfl fun _ w _ => join_ok b c (n % 1099511627776) b0 b1 c0 c1 (by omega) (by omega) w) rfl ?_
  refine go (k := ?_)
  have hmn := fun w => join_ok a (num2 (join2 b c (n % 1099511627776))) (m % 1099511627776 + n % 1099511627776) a0 a1 h2.1 h2.2 (by omega) (by omega) w
  refine XL.q (.call rfl rfl fun _ w _ => hmn w) rfl ?_
  rw [e]
  refine go (k := ?_)
  refine XL.q (.call rfl rfl fun _ w _ => sworks_ok w) rfl ?_
  refine go (k := ?_)
  exact XE.ret1 () [] rfl rfl trivial rfl rfl rfl
end Go.X
