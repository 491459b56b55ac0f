/- Package codec: what a Reader does. -/
import Derived.Test.YtmmofanfgoahkaaDoorCodA
namespace Go.X
open Go Go.Proofs
abbrev Rr := List UInt8 × Int
abbrev rrB (b : Nat) (x : Rr) : Ent := .blk b [str x.1, iv x.2] 126
theorem rnewr_ok (s : List UInt8) (w : World) : Fx Tryd.prog 65 [str s] w (Ret w [] (fun b : Nat => ptr b) (fun b => [rrB b (s, 0)]) (fun _ => True)) := by
  refine Fx.of (L0 := []) Tryd.func65 rfl (by kernel_rfl) Tryd.ntmps65 rfl (Owns.nil w) ?_
  refine go (k := ?_)
  refine XL.box (zs := [str s, iv 0]) rfl rfl rfl fun b => ?_
  refine go (k := ?_)
  exact XE.ret1 b [0] rfl rfl trivial rfl rfl rfl
theorem rfail_ok (b : Nat) (x : Rr) (e : Int) (w : World) (ho : Owns w [rrB b x]) : Fx Tryd.prog 81 [ptr b, iv e] w (Ret w [rrB b x] (fun _ : Unit => .tuple #[]) (fun _ => [rrB b ([], e)]) (fun _ => True)) := by
  refine Fx.of Tryd.func81 rfl (by kernel_rfl) Tryd.ntmps81 rfl ho ?_
  refine go (k := ?_)
  exact XE.end0 () [0] rfl trivial rfl rfl rfl
/-- Fixed: what is read, and what is left -/
def rfix (x : Rr) (n : Int) : List UInt8 × Rr := if x.2 ≠ 0 ∨ n ≤ 0 then ([], x) else if (x.1.length : Int) < n then ([], ([], 10)) else (x.1.take n.toNat, (x.1.drop n.toNat, 0))
theorem rfixed_ok (b : Nat) (x : Rr) (n : Int) (w : World) (hl : x.1.length ≤ 1000000) (ho : Owns w [rrB b x]) :
    Fx Tryd.prog 67 [ptr b, iv n] w (Ret w [rrB b x] (fun _ : Unit => str (rfix x n).1) (fun _ => [rrB b (rfix x n).2]) (fun _ => True)) := by
  obtain ⟨s, e⟩ := x
  simp only at hl ⊢
  refine Fx.of Tryd.func67 rfl (by kernel_rfl) Tryd.ntmps67 rfl ho ?_
  by_cases he : e = 0
  · subst he
    by_cases hn : n ≤ 0
    · have e1 : rfix (s, 0) n = ([], (s, 0)) := by unfold rfix; rw [if_pos (.inr hn)]
      rw [e1]
      refine go (k := ?_)
      exact XE.ret1 () [0] rfl rfl trivial rfl rfl rfl
    · by_cases hlt : (s.length : Int) < n
      · have e1 : rfix (s, 0) n = ([], ([], 10)) := by unfold rfix; rw [if_neg (by simp; omega), if_pos hlt]
        rw [e1]
        refine go (k := ?_)
        refine XL.call [0] [] rfl rfl rfl rfl rfl (fun _ w _ ho => rfail_ok b (s, 0) 10 w ho) fun _ _ => ?_
        refine go (k := ?_)
        exact XE.ret1 () [0] rfl rfl trivial rfl rfl rfl
      · obtain ⟨k, rfl⟩ : ∃ k : Nat, n = k := ⟨n.toNat, by omega⟩
        have e1 : rfix (s, 0) k = (s.take k, (s.drop k, 0)) := by unfold rfix; rw [if_neg (by simp; omega), if_neg hlt]; rfl
        rw [e1]
        have hk : k ≤ s.length := by omega
        refine go (k := ?_)
        exact XE.ret1 () [0] rfl rfl trivial rfl rfl rfl
  · have e1 : rfix (s, e) n = ([], (s, e)) := by unfold rfix; rw [if_pos (.inl he)]
    rw [e1]
    refine go (k := ?_)
    exact XE.ret1 () [0] rfl rfl trivial rfl rfl rfl
/-- the number that bytes are, the greatest first -/
def gnum (l : List UInt8) : Nat := l.foldl (fun n c => n * 256 + c.toNat) 0
theorem gnum_snoc (l : List UInt8) (c : UInt8) : gnum (l ++ [c]) = gnum l * 256 + c.toNat := by simp [gnum]
theorem rfix_len (x : Rr) (n : Nat) : (rfix x n).1.length ≤ n := by
  unfold rfix
  split
  · exact Nat.zero_le _
  · split
    · exact Nat.zero_le _
    · simp only [Int.toNat_natCast, List.length_take]; omega
theorem gfold_lt : ∀ (l : List UInt8) (a : Nat), l.foldl (fun n c => n * 256 + c.toNat) a < (a + 1) * 256 ^ l.length
  | [], a => by simp
  | c :: l, a => by
    have h := gfold_lt l (a * 256 + c.toNat)
    have hc := c.toNat_lt
    have h2 : (a * 256 + c.toNat + 1) * 256 ^ l.length ≤ ((a + 1) * 256) * 256 ^ l.length := Nat.mul_le_mul_right _ (by omega)
    rw [List.foldl_cons, List.length_cons, Nat.pow_succ, Nat.mul_comm (256 ^ l.length) 256, ← Nat.mul_assoc]
    exact Nat.lt_of_lt_of_le h h2
theorem gnum_lt (l : List UInt8) : gnum l < 256 ^ l.length := by
  have := gfold_lt l 0
  rwa [Nat.zero_add, Nat.one_mul] at this
theorem pow_le4 {k : Nat} (h : k ≤ 4) : 256 ^ k ≤ 4294967296 := by
  have : 256 ^ k ≤ 256 ^ 4 := Nat.pow_le_pow_right (by decide) h
  omega
theorem byte_room {g p : Nat} (h : g < p) (hp : p * 256 ≤ 4294967296) : g * 256 + 256 ≤ 4294967296 := by
  have h1 : (g + 1) * 256 ≤ p * 256 := Nat.mul_le_mul_right 256 h
  rw [Nat.succ_mul] at h1
  exact Nat.le_trans h1 hp
theorem or_byte (n : Nat) (c : UInt8) (h : n * 256 + 256 ≤ 4294967296) : bitsOp .or .u32 ((n : Int) * 256) (c.toNat : Int) = ((n * 256 + c.toNat : Nat) : Int) := by
  have hc := c.toNat_lt
  obtain ⟨a, ha⟩ : ∃ a, c.toNat = a := ⟨_, rfl⟩
  rw [ha] at hc ⊢
  have hor : n <<< 8 + a = n <<< 8 ||| a := Nat.shiftLeft_add_eq_or_of_lt (i := 8) (by omega) n
  have h5 : (BitVec.ofInt 32 ((n : Int) * 256) ||| BitVec.ofInt 32 (a : Int)).toNat = n * 256 + a := by
    rw [show ((n : Int) * 256) = ((n * 256 : Nat) : Int) by omega, BitVec.ofInt_natCast, BitVec.ofInt_natCast, BitVec.toNat_or, BitVec.toNat_ofNat, BitVec.toNat_ofNat, Nat.mod_eq_of_lt (by omega), Nat.mod_eq_of_lt (by omega)]
    rw [Nat.shiftLeft_eq] at hor
    simpa using hor.symm
  show IntKind.u32.wrap _ = _
  rw [wrap_u32]
  show ((BitVec.ofInt 32 ((n : Int) * 256) ||| BitVec.ofInt 32 (a : Int)).toNat : Int) % 4294967296 = _
  rw [h5]
  omega
theorem get8_ok (b : Nat) (x : Rr) (k : Nat) (w : World) (hk : k ≤ 1) (hl : x.1.length ≤ 1000000) (ho : Owns w [rrB b x]) :
    Fx Tryd.prog 90 [ptr b, iv k] w (Ret w [rrB b x] (fun _ : Unit => .int .u8 (gnum (rfix x k).1)) (fun _ => [rrB b (rfix x k).2]) (fun _ => True)) := by
  refine Fx.of Tryd.func90 rfl (by kernel_rfl) Tryd.ntmps90 rfl ho ?_
  refine go (k := ?_)
  refine XL.call [0] [] rfl rfl rfl rfl rfl (fun _ w _ ho => rfixed_ok b x k w hl ho) fun _ _ => ?_
  have htl := rfix_len x k
  obtain ⟨y, hy⟩ : ∃ y, y = rfix x k := ⟨_, rfl⟩
  rw [← hy] at htl ⊢
  obtain ⟨t, x'⟩ := y
  simp only at htl ⊢
  clear hy
  refine go (k := ?_)
  refine XL.make (.strBytes rfl rfl rfl rfl) rfl fun _ _ hv => ?_
  obtain ⟨bs, c, pad, f, rfl, hc, rfl⟩ := hv
  refine go (k := ?_)
  refine XC.loop (α := Nat) (fun i => [(5, .int .u32 (gnum (t.take i))), (11, .slice (some ⟨bs, 0, none⟩) t.length c), (12, iv t.length), (13, iv i)]) (fun _ => [rowB bs t pad 5 f, rrB b x']) (fun i => i ≤ t.length) (fun i => t.length - i) 0 [0, 1] (Nat.zero_le _) ⟨rfl, rfl, rfl, rfl, trivial⟩ rfl rfl ?_
  intro i hi
  by_cases hlt : i < t.length
  · obtain ⟨d, hd⟩ : ∃ d, t[i]? = some d := ⟨_, List.getElem?_eq_getElem hlt⟩
    have hv1 : (bcells t)[i * 1]? = some (Value.int .u8 (d.toNat : Int)) := by simp [hd]
    have hdl := d.toNat_lt
    have hg := gnum_lt (t.take i)
    rw [List.length_take, Nat.min_eq_left hi] at hg
    have hp : 256 ^ (i + 1) ≤ 4294967296 := pow_le4 (by omega)
    rw [Nat.pow_succ] at hp
    have hb : gnum (t.take i) * 256 + 256 ≤ 4294967296 := byte_room hg hp
    have hsn : gnum (t.take (i + 1)) = gnum (t.take i) * 256 + d.toNat := by rw [take_snoc hd, gnum_snoc]
    have hor := or_byte (gnum (t.take i)) d hb
    rw [← hsn] at hor
    refine go (k := ?_)
    refine XL.q (.ldRd (off := 0) (j := i * 1) (by rw [Nat.zero_add]; rfl) rfl rfl (.rowB (.head _) rfl hc) (by omega) hv1) rfl ?_
    refine go (k := ?_)
    rw [hor]
    exact XE.mid (i + 1) [0, 1] ⟨by omega, by omega⟩ ⟨rfl, rfl, rfl, rfl, trivial⟩ rfl rfl
  · obtain rfl : i = t.length := by omega
    rw [List.take_length]
    have hg : gnum t < 256 ^ 1 := Nat.lt_of_lt_of_le (gnum_lt t) (Nat.pow_le_pow_right (by decide) (by omega))
    refine go (k := ?_)
    exact XE.ret1 () [1] rfl rfl trivial rfl rfl rfl
theorem get16_ok (b : Nat) (x : Rr) (k : Nat) (w : World) (hk : k ≤ 2) (hl : x.1.length ≤ 1000000) (ho : Owns w [rrB b x]) :
    Fx Tryd.prog 89 [ptr b, iv k] w (Ret w [rrB b x] (fun _ : Unit => .int .u16 (gnum (rfix x k).1)) (fun _ => [rrB b (rfix x k).2]) (fun _ => True)) := by
  refine Fx.of Tryd.func89 rfl (by kernel_rfl) Tryd.ntmps89 rfl ho ?_
  refine go (k := ?_)
  refine XL.call [0] [] rfl rfl rfl rfl rfl (fun _ w _ ho => rfixed_ok b x k w hl ho) fun _ _ => ?_
  have htl := rfix_len x k
  obtain ⟨y, hy⟩ : ∃ y, y = rfix x k := ⟨_, rfl⟩
  rw [← hy] at htl ⊢
  obtain ⟨t, x'⟩ := y
  simp only at htl ⊢
  clear hy
  refine go (k := ?_)
  refine XL.make (.strBytes rfl rfl rfl rfl) rfl fun _ _ hv => ?_
  obtain ⟨bs, c, pad, f, rfl, hc, rfl⟩ := hv
  refine go (k := ?_)
  refine XC.loop (α := Nat) (fun i => [(5, .int .u32 (gnum (t.take i))), (11, .slice (some ⟨bs, 0, none⟩) t.length c), (12, iv t.length), (13, iv i)]) (fun _ => [rowB bs t pad 5 f, rrB b x']) (fun i => i ≤ t.length) (fun i => t.length - i) 0 [0, 1] (Nat.zero_le _) ⟨rfl, rfl, rfl, rfl, trivial⟩ rfl rfl ?_
  intro i hi
  by_cases hlt : i < t.length
  · obtain ⟨d, hd⟩ : ∃ d, t[i]? = some d := ⟨_, List.getElem?_eq_getElem hlt⟩
    have hv1 : (bcells t)[i * 1]? = some (Value.int .u8 (d.toNat : Int)) := by simp [hd]
    have hdl := d.toNat_lt
    have hg := gnum_lt (t.take i)
    rw [List.length_take, Nat.min_eq_left hi] at hg
    have hp : 256 ^ (i + 1) ≤ 4294967296 := pow_le4 (by omega)
    rw [Nat.pow_succ] at hp
    have hb : gnum (t.take i) * 256 + 256 ≤ 4294967296 := byte_room hg hp
    have hsn : gnum (t.take (i + 1)) = gnum (t.take i) * 256 + d.toNat := by rw [take_snoc hd, gnum_snoc]
    have hor := or_byte (gnum (t.take i)) d hb
    rw [← hsn] at hor
    refine go (k := ?_)
    refine XL.q (.ldRd (off := 0) (j := i * 1) (by rw [Nat.zero_add]; rfl) rfl rfl (.rowB (.head _) rfl hc) (by omega) hv1) rfl ?_
    refine go (k := ?_)
    rw [hor]
    exact XE.mid (i + 1) [0, 1] ⟨by omega, by omega⟩ ⟨rfl, rfl, rfl, rfl, trivial⟩ rfl rfl
  · obtain rfl : i = t.length := by omega
    rw [List.take_length]
    have hg : gnum t < 256 ^ 2 := Nat.lt_of_lt_of_le (gnum_lt t) (Nat.pow_le_pow_right (by decide) (by omega))
    refine go (k := ?_)
    exact XE.ret1 () [1] rfl rfl trivial rfl rfl rfl
theorem get32_ok (b : Nat) (x : Rr) (k : Nat) (w : World) (hk : k ≤ 4) (hl : x.1.length ≤ 1000000) (ho : Owns w [rrB b x]) :
    Fx Tryd.prog 80 [ptr b, iv k] w (Ret w [rrB b x] (fun _ : Unit => .int .u32 (gnum (rfix x k).1)) (fun _ => [rrB b (rfix x k).2]) (fun _ => True)) := by
  refine Fx.of Tryd.func80 rfl (by kernel_rfl) Tryd.ntmps80 rfl ho ?_
  refine go (k := ?_)
  refine XL.call [0] [] rfl rfl rfl rfl rfl (fun _ w _ ho => rfixed_ok b x k w hl ho) fun _ _ => ?_
  have htl := rfix_len x k
  obtain ⟨y, hy⟩ : ∃ y, y = rfix x k := ⟨_, rfl⟩
  rw [← hy] at htl ⊢
  obtain ⟨t, x'⟩ := y
  simp only at htl ⊢
  clear hy
  refine go (k := ?_)
  refine XL.make (.strBytes rfl rfl rfl rfl) rfl fun _ _ hv => ?_
  obtain ⟨bs, c, pad, f, rfl, hc, rfl⟩ := hv
  refine go (k := ?_)
  refine XC.loop (α := Nat) (fun i => [(5, .int .u32 (gnum (t.take i))), (11, .slice (some ⟨bs, 0, none⟩) t.length c), (12, iv t.length), (13, iv i)]) (fun _ => [rowB bs t pad 5 f, rrB b x']) (fun i => i ≤ t.length) (fun i => t.length - i) 0 [0, 1] (Nat.zero_le _) ⟨rfl, rfl, rfl, rfl, trivial⟩ rfl rfl ?_
  intro i hi
  by_cases hlt : i < t.length
  · obtain ⟨d, hd⟩ : ∃ d, t[i]? = some d := ⟨_, List.getElem?_eq_getElem hlt⟩
    have hv1 : (bcells t)[i * 1]? = some (Value.int .u8 (d.toNat : Int)) := by simp [hd]
    have hdl := d.toNat_lt
    have hg := gnum_lt (t.take i)
    rw [List.length_take, Nat.min_eq_left hi] at hg
    have hp : 256 ^ (i + 1) ≤ 4294967296 := pow_le4 (by omega)
    rw [Nat.pow_succ] at hp
    have hb : gnum (t.take i) * 256 + 256 ≤ 4294967296 := byte_room hg hp
    have hsn : gnum (t.take (i + 1)) = gnum (t.take i) * 256 + d.toNat := by rw [take_snoc hd, gnum_snoc]
    have hor := or_byte (gnum (t.take i)) d hb
    rw [← hsn] at hor
    refine go (k := ?_)
    refine XL.q (.ldRd (off := 0) (j := i * 1) (by rw [Nat.zero_add]; rfl) rfl rfl (.rowB (.head _) rfl hc) (by omega) hv1) rfl ?_
    refine go (k := ?_)
    rw [hor]
    exact XE.mid (i + 1) [0, 1] ⟨by omega, by omega⟩ ⟨rfl, rfl, rfl, rfl, trivial⟩ rfl rfl
  · obtain rfl : i = t.length := by omega
    rw [List.take_length]
    refine go (k := ?_)
    exact XE.ret1 () [1] rfl rfl trivial rfl rfl rfl
theorem ru8_ok (b : Nat) (x : Rr) (w : World) (hl : x.1.length ≤ 1000000) (ho : Owns w [rrB b x]) :
    Fx Tryd.prog 70 [ptr b] w (Ret w [rrB b x] (fun _ : Unit => .int .u8 (gnum (rfix x (1 : Nat)).1)) (fun _ => [rrB b (rfix x (1 : Nat)).2]) (fun _ => True)) := by
  refine Fx.of Tryd.func70 rfl (by kernel_rfl) Tryd.ntmps70 rfl ho ?_
  refine go (k := ?_)
  refine XL.call [0] [] rfl rfl rfl rfl rfl (fun _ w1 _ ho => get8_ok b x 1 w1 (by decide) hl ho) fun _ _ => ?_
  refine go (k := ?_)
  exact XE.ret1 () [0] rfl rfl trivial rfl rfl rfl
theorem ru16_ok (b : Nat) (x : Rr) (w : World) (hl : x.1.length ≤ 1000000) (ho : Owns w [rrB b x]) :
    Fx Tryd.prog 69 [ptr b] w (Ret w [rrB b x] (fun _ : Unit => .int .u16 (gnum (rfix x (2 : Nat)).1)) (fun _ => [rrB b (rfix x (2 : Nat)).2]) (fun _ => True)) := by
  refine Fx.of Tryd.func69 rfl (by kernel_rfl) Tryd.ntmps69 rfl ho ?_
  refine go (k := ?_)
  refine XL.call [0] [] rfl rfl rfl rfl rfl (fun _ w1 _ ho => get16_ok b x 2 w1 (by decide) hl ho) fun _ _ => ?_
  refine go (k := ?_)
  exact XE.ret1 () [0] rfl rfl trivial rfl rfl rfl
theorem ru32_ok (b : Nat) (x : Rr) (w : World) (hl : x.1.length ≤ 1000000) (ho : Owns w [rrB b x]) :
    Fx Tryd.prog 66 [ptr b] w (Ret w [rrB b x] (fun _ : Unit => .int .u32 (gnum (rfix x (4 : Nat)).1)) (fun _ => [rrB b (rfix x (4 : Nat)).2]) (fun _ => True)) := by
  refine Fx.of Tryd.func66 rfl (by kernel_rfl) Tryd.ntmps66 rfl ho ?_
  refine go (k := ?_)
  refine XL.call [0] [] rfl rfl rfl rfl rfl (fun _ w1 _ ho => get32_ok b x 4 w1 (by decide) hl ho) fun _ _ => ?_
  refine go (k := ?_)
  exact XE.ret1 () [0] rfl rfl trivial rfl rfl rfl
end Go.X
