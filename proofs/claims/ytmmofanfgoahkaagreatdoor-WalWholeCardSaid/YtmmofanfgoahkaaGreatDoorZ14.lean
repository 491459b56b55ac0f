/- Package codec: what a Reader does. -/
import Derived.Test.YtmmofanfgoahkaaGreatDoorZ13
import Derived.Shelf.Strings.Builder1
import Derived.Shelf.Strings.Builder2
import Derived.Shelf.Strings.Trim
import Derived.Shelf.Small.Utf8
import Derived.Shelf.Small.Strs
import Derived.Shelf.Strings.BuilderF
import Derived.Shelf.Strings.Search1
import Derived.Shelf.Strings.Prefix
import Derived.Shelf.Strings.Runes
import Derived.Shelf.Strings.AsciiSet
import Derived.Shelf.Bits.Mul64
import Derived.Shelf.Strings.Repeat
import Derived.Shelf.Unicode.DecodeSlow
import Derived.Test.YtmmofanfgoahkaaGreatDoorProg
import Derived.Test.YtmmofanfgoahkaaGreatDoorZ9
namespace Go.X
open Go Go.Proofs
abbrev Rr := List UInt8 × Int
abbrev rrB (b : Nat) (x : Rr) : Ent := .blk b [str x.1, iv x.2] 186
theorem rnewr_ok (s : List UInt8) (w : World) : Fx Tryz.prog 113 [str s] w (Ret w [] (fun b : Nat => ptr b) (fun b => [rrB b (s, 0)]) (fun _ => True)) := by
  refine Fx.of (L0 := []) Tryz.func113 rfl (by kernel_rfl) Tryz.ntmps113 rfl (Owns.nil w) ?_
  refine go (k := ?_)
  refine XL.box (zs := [str s, iv 0]) rfl rfl rfl fun b => ?_
  refine go (k := ?_)
  exact XE.ret1 b [0] rfl rfl trivial rfl rfl rfl
theorem rfail_ok (b : Nat) (x : Rr) (e : Int) (w : World) (ho : Owns w [rrB b x]) : Fx Tryz.prog 129 [ptr b, iv e] w (Ret w [rrB b x] (fun _ : Unit => .tuple #[]) (fun _ => [rrB b ([], e)]) (fun _ => True)) := by
  refine Fx.of Tryz.func129 rfl (by kernel_rfl) Tryz.ntmps129 rfl ho ?_
  refine go (k := ?_)
  exact XE.end0 () [0] rfl trivial rfl rfl rfl
/-- Fixed: what is read, and what is left -/
def rfix (x : Rr) (n : Int) : List UInt8 × Rr := if x.2 ≠ 0 ∨ n ≤ 0 then ([], x) else if (x.1.length : Int) < n then ([], ([], 10)) else (x.1.take n.toNat, (x.1.drop n.toNat, 0))
theorem rfixed_ok (b : Nat) (x : Rr) (n : Int) (w : World) (hl : x.1.length ≤ 1000000) (ho : Owns w [rrB b x]) :
    Fx Tryz.prog 115 [ptr b, iv n] w (Ret w [rrB b x] (fun _ : Unit => str (rfix x n).1) (fun _ => [rrB b (rfix x n).2]) (fun _ => True)) := by
  obtain ⟨s, e⟩ := x
  simp only at hl ⊢
  refine Fx.of Tryz.func115 rfl (by kernel_rfl) Tryz.ntmps115 rfl ho ?_
  by_cases he : e = 0
  · subst he
    by_cases hn : n ≤ 0
    · have e1 : rfix (s, 0) n = ([], (s, 0)) := by unfold rfix; rw [if_pos (.inr hn)]
      rw [e1]
      refine go (k := ?_)
      exact XE.ret1 () [0] rfl rfl trivial rfl rfl rfl
    · by_cases hlt : (s.length : Int) < n
      · have e1 : rfix (s, 0) n = ([], ([], 10)) := by unfold rfix; rw [if_neg (by simp; omega), if_pos hlt]
        rw [e1]
        refine go (k := ?_)
        refine XL.call [0] [] rfl rfl rfl rfl rfl (fun _ w _ ho => rfail_ok b (s, 0) 10 w ho) fun _ _ => ?_
        refine go (k := ?_)
        exact XE.ret1 () [0] rfl rfl trivial rfl rfl rfl
      · obtain ⟨k, rfl⟩ : ∃ k : Nat, n = k := ⟨n.toNat, by omega⟩
        have e1 : rfix (s, 0) k = (s.take k, (s.drop k, 0)) := by unfold rfix; rw [if_neg (by simp; omega), if_neg hlt]; rfl
        rw [e1]
        have hk : k ≤ s.length := by omega
        refine go (k := ?_)
        exact XE.ret1 () [0] rfl rfl trivial rfl rfl rfl
  · have e1 : rfix (s, e) n = ([], (s, e)) := by unfold rfix; rw [if_pos (.inl he)]
    rw [e1]
    refine go (k := ?_)
    exact XE.ret1 () [0] rfl rfl trivial rfl rfl rfl
/-- the number that bytes are, the greatest first -/
def gnum (l : List UInt8) : Nat := l.foldl (fun n c => n * 256 + c.toNat) 0
theorem gnum_snoc (l : List UInt8) (c : UInt8) : gnum (l ++ [c]) = gnum l * 256 + c.toNat := by simp [gnum]
theorem rfix_len (x : Rr) (n : Nat) : (rfix x n).1.length ≤ n := by
  unfold rfix
  split
  · exact Nat.zero_le _
  · split
    · exact Nat.zero_le _
    · simp only [Int.toNat_natCast, List.length_take]; omega
theorem gfold_lt : ∀ (l : List UInt8) (a : Nat), l.foldl (fun n c => n * 256 + c.toNat) a < (a + 1) * 256 ^ l.length
  | [], a => by simp
  | c :: l, a => by
    have h := gfold_lt l (a * 256 + c.toNat)
    have hc := c.toNat_lt
    have h2 : (a * 256 + c.toNat + 1) * 256 ^ l.length ≤ ((a + 1) * 256) * 256 ^ l.length := Nat.mul_le_mul_right _ (by omega)
    rw [List.foldl_cons, List.length_cons, Nat.pow_succ, Nat.mul_comm (256 ^ l.length) 256, ← Nat.mul_assoc]
    exact Nat.lt_of_lt_of_le h h2
theorem gnum_lt (l : List UInt8) : gnum l < 256 ^ l.length := by
  have := gfold_lt l 0
  rwa [Nat.zero_add, Nat.one_mul] at this
theorem pow_le4 {k : Nat} (h : k ≤ 4) : 256 ^ k ≤ 4294967296 := by
  have : 256 ^ k ≤ 256 ^ 4 := Nat.pow_le_pow_right (by decide) h
  omega
theorem byte_room {g p : Nat} (h : g < p) (hp : p * 256 ≤ 4294967296) : g * 256 + 256 ≤ 4294967296 := by
  have h1 : (g + 1) * 256 ≤ p * 256 := Nat.mul_le_mul_right 256 h
  rw [Nat.succ_mul] at h1
  exact Nat.le_trans h1 hp
theorem or_byte (n : Nat) (c : UInt8) (h : n * 256 + 256 ≤ 4294967296) : bitsOp .or .u32 ((n : Int) * 256) (c.toNat : Int) = ((n * 256 + c.toNat : Nat) : Int) := by
  have hc := c.toNat_lt
  obtain ⟨a, ha⟩ : ∃ a, c.toNat = a := ⟨_, rfl⟩
  rw [ha] at hc ⊢
  have hor : n <<< 8 + a = n <<< 8 ||| a := Nat.shiftLeft_add_eq_or_of_lt (i := 8) (by omega) n
  have h5 : (BitVec.ofInt 32 ((n : Int) * 256) ||| BitVec.ofInt 32 (a : Int)).toNat = n * 256 + a := by
    rw [show ((n : Int) * 256) = ((n * 256 : Nat) : Int) by omega, BitVec.ofInt_natCast, BitVec.ofInt_natCast, BitVec.toNat_or, BitVec.toNat_ofNat, BitVec.toNat_ofNat, Nat.mod_eq_of_lt (by omega), Nat.mod_eq_of_lt (by omega)]
    rw [Nat.shiftLeft_eq] at hor
    simpa using hor.symm
  show IntKind.u32.wrap _ = _
  rw [wrap_u32]
  show ((BitVec.ofInt 32 ((n : Int) * 256) ||| BitVec.ofInt 32 (a : Int)).toNat : Int) % 4294967296 = _
  rw [h5]
  omega
theorem get8_ok (b : Nat) (x : Rr) (k : Nat) (w : World) (hk : k ≤ 1) (hl : x.1.length ≤ 1000000) (ho : Owns w [rrB b x]) :
    Fx Tryz.prog 138 [ptr b, iv k] w (Ret w [rrB b x] (fun _ : Unit => .int .u8 (gnum (rfix x k).1)) (fun _ => [rrB b (rfix x k).2]) (fun _ => True)) := by
  refine Fx.of Tryz.func138 rfl (by kernel_rfl) Tryz.ntmps138 rfl ho ?_
  refine go (k := ?_)
  refine XL.call [0] [] rfl rfl rfl rfl rfl (fun _ w _ ho => rfixed_ok b x k w hl ho) fun _ _ => ?_
  have htl := rfix_len x k
  obtain ⟨y, hy⟩ : ∃ y, y = rfix x k := ⟨_, rfl⟩
  rw [← hy] at htl ⊢
  obtain ⟨t, x'⟩ := y
  simp only at htl ⊢
  clear hy
  refine go (k := ?_)
  refine XL.make (.strBytes rfl rfl rfl rfl) rfl fun _ _ hv => ?_
  obtain ⟨bs, c, pad, f, rfl, hc, rfl⟩ := hv
  refine go (k := ?_)
  refine XC.loop (α := Nat) (fun i => [(5, .int .u32 (gnum (t.take i))), (11, .slice (some ⟨bs, 0, none⟩) t.length c), (12, iv t.length), (13, iv i)]) (fun _ => [rowB bs t pad 5 f, rrB b x']) (fun i => i ≤ t.length) (fun i => t.length - i) 0 [0, 1] (Nat.zero_le _) ⟨rfl, rfl, rfl, rfl, trivial⟩ rfl rfl ?_
  intro i hi
  by_cases hlt : i < t.length
  · obtain ⟨d, hd⟩ : ∃ d, t[i]? = some d := ⟨_, List.getElem?_eq_getElem hlt⟩
    have hv1 : (bcells t)[i * 1]? = some (Value.int .u8 (d.toNat : Int)) := by simp [hd]
    have hdl := d.toNat_lt
    have hg := gnum_lt (t.take i)
    rw [List.length_take, Nat.min_eq_left hi] at hg
    have hp : 256 ^ (i + 1) ≤ 4294967296 := pow_le4 (by omega)
    rw [Nat.pow_succ] at hp
    have hb : gnum (t.take i) * 256 + 256 ≤ 4294967296 := byte_room hg hp
    have hsn : gnum (t.take (i + 1)) = gnum (t.take i) * 256 + d.toNat := by rw [take_snoc hd, gnum_snoc]
    have hor := or_byte (gnum (t.take i)) d hb
    rw [← hsn] at hor
    refine go (k := ?_)
    refine XL.q (.ldRd (off := 0) (j := i * 1) (by rw [Nat.zero_add]; rfl) rfl rfl (.rowB (.head _) rfl hc) (by omega) hv1) rfl ?_
    refine go (k := ?_)
    rw [hor]
    exact XE.mid (i + 1) [0, 1] ⟨by omega, by omega⟩ ⟨rfl, rfl, rfl, rfl, trivial⟩ rfl rfl
  · obtain rfl : i = t.length := by omega
    rw [List.take_length]
    have hg : gnum t < 256 ^ 1 := Nat.lt_of_lt_of_le (gnum_lt t) (Nat.pow_le_pow_right (by decide) (by omega))
    refine go (k := ?_)
    exact XE.ret1 () [1] rfl rfl trivial rfl rfl rfl
theorem get16_ok (b : Nat) (x : Rr) (k : Nat) (w : World) (hk : k ≤ 2) (hl : x.1.length ≤ 1000000) (ho : Owns w [rrB b x]) :
    Fx Tryz.prog 137 [ptr b, iv k] w (Ret w [rrB b x] (fun _ : Unit => .int .u16 (gnum (rfix x k).1)) (fun _ => [rrB b (rfix x k).2]) (fun _ => True)) := by
  refine Fx.of Tryz.func137 rfl (by kernel_rfl) Tryz.ntmps137 rfl ho ?_
  refine go (k := ?_)
  refine XL.call [0] [] rfl rfl rfl rfl rfl (fun _ w _ ho => rfixed_ok b x k w hl ho) fun _ _ => ?_
  have htl := rfix_len x k
  obtain ⟨y, hy⟩ : ∃ y, y = rfix x k := ⟨_, rfl⟩
  rw [← hy] at htl ⊢
  obtain ⟨t, x'⟩ := y
  simp only at htl ⊢
  clear hy
  refine go (k := ?_)
  refine XL.make (.strBytes rfl rfl rfl rfl) rfl fun _ _ hv => ?_
  obtain ⟨bs, c, pad, f, rfl, hc, rfl⟩ := hv
  refine go (k := ?_)
  refine XC.loop (α := Nat) (fun i => [(5, .int .u32 (gnum (t.take i))), (11, .slice (some ⟨bs, 0, none⟩) t.length c), (12, iv t.length), (13, iv i)]) (fun _ => [rowB bs t pad 5 f, rrB b x']) (fun i => i ≤ t.length) (fun i => t.length - i) 0 [0, 1] (Nat.zero_le _) ⟨rfl, rfl, rfl, rfl, trivial⟩ rfl rfl ?_
  intro i hi
  by_cases hlt : i < t.length
  · obtain ⟨d, hd⟩ : ∃ d, t[i]? = some d := ⟨_, List.getElem?_eq_getElem hlt⟩
    have hv1 : (bcells t)[i * 1]? = some (Value.int .u8 (d.toNat : Int)) := by simp [hd]
    have hdl := d.toNat_lt
    have hg := gnum_lt (t.take i)
    rw [List.length_take, Nat.min_eq_left hi] at hg
    have hp : 256 ^ (i + 1) ≤ 4294967296 := pow_le4 (by omega)
    rw [Nat.pow_succ] at hp
    have hb : gnum (t.take i) * 256 + 256 ≤ 4294967296 := byte_room hg hp
    have hsn : gnum (t.take (i + 1)) = gnum (t.take i) * 256 + d.toNat := by rw [take_snoc hd, gnum_snoc]
    have hor := or_byte (gnum (t.take i)) d hb
    rw [← hsn] at hor
    refine go (k := ?_)
    refine XL.q (.ldRd (off := 0) (j := i * 1) (by rw [Nat.zero_add]; rfl) rfl rfl (.rowB (.head _) rfl hc) (by omega) hv1) rfl ?_
    refine go (k := ?_)
    rw [hor]
    exact XE.mid (i + 1) [0, 1] ⟨by omega, by omega⟩ ⟨rfl, rfl, rfl, rfl, trivial⟩ rfl rfl
  · obtain rfl : i = t.length := by omega
    rw [List.take_length]
    have hg : gnum t < 256 ^ 2 := Nat.lt_of_lt_of_le (gnum_lt t) (Nat.pow_le_pow_right (by decide) (by omega))
    refine go (k := ?_)
    exact XE.ret1 () [1] rfl rfl trivial rfl rfl rfl
theorem get32_ok (b : Nat) (x : Rr) (k : Nat) (w : World) (hk : k ≤ 4) (hl : x.1.length ≤ 1000000) (ho : Owns w [rrB b x]) :
    Fx Tryz.prog 128 [ptr b, iv k] w (Ret w [rrB b x] (fun _ : Unit => .int .u32 (gnum (rfix x k).1)) (fun _ => [rrB b (rfix x k).2]) (fun _ => True)) := by
  refine Fx.of Tryz.func128 rfl (by kernel_rfl) Tryz.ntmps128 rfl ho ?_
  refine go (k := ?_)
  refine XL.call [0] [] rfl rfl rfl rfl rfl (fun _ w _ ho => rfixed_ok b x k w hl ho) fun _ _ => ?_
  have htl := rfix_len x k
  obtain ⟨y, hy⟩ : ∃ y, y = rfix x k := ⟨_, rfl⟩
  rw [← hy] at htl ⊢
  obtain ⟨t, x'⟩ := y
  simp only at htl ⊢
  clear hy
  refine go (k := ?_)
  refine XL.make (.strBytes rfl rfl rfl rfl) rfl fun _ _ hv => ?_
  obtain ⟨bs, c, pad, f, rfl, hc, rfl⟩ := hv
  refine go (k := ?_)
  refine XC.loop (α := Nat) (fun i => [(5, .int .u32 (gnum (t.take i))), (11, .slice (some ⟨bs, 0, none⟩) t.length c), (12, iv t.length), (13, iv i)]) (fun _ => [rowB bs t pad 5 f, rrB b x']) (fun i => i ≤ t.length) (fun i => t.length - i) 0 [0, 1] (Nat.zero_le _) ⟨rfl, rfl, rfl, rfl, trivial⟩ rfl rfl ?_
  intro i hi
  by_cases hlt : i < t.length
  · obtain ⟨d, hd⟩ : ∃ d, t[i]? = some d := ⟨_, List.getElem?_eq_getElem hlt⟩
    have hv1 : (bcells t)[i * 1]? = some (Value.int .u8 (d.toNat : Int)) := by simp [hd]
    have hdl := d.toNat_lt
    have hg := gnum_lt (t.take i)
    rw [List.length_take, Nat.min_eq_left hi] at hg
    have hp : 256 ^ (i + 1) ≤ 4294967296 := pow_le4 (by omega)
    rw [Nat.pow_succ] at hp
    have hb : gnum (t.take i) * 256 + 256 ≤ 4294967296 := byte_room hg hp
    have hsn : gnum (t.take (i + 1)) = gnum (t.take i) * 256 + d.toNat := by rw [take_snoc hd, gnum_snoc]
    have hor := or_byte (gnum (t.take i)) d hb
    rw [← hsn] at hor
    refine go (k := ?_)
    refine XL.q (.ldRd (off := 0) (j := i * 1) (by rw [Nat.zero_add]; rfl) rfl rfl (.rowB (.head _) rfl hc) (by omega) hv1) rfl ?_
    refine go (k := ?_)
    rw [hor]
    exact XE.mid (i + 1) [0, 1] ⟨by omega, by omega⟩ ⟨rfl, rfl, rfl, rfl, trivial⟩ rfl rfl
  · obtain rfl : i = t.length := by omega
    rw [List.take_length]
    refine go (k := ?_)
    exact XE.ret1 () [1] rfl rfl trivial rfl rfl rfl
theorem ru8_ok (b : Nat) (x : Rr) (w : World) (hl : x.1.length ≤ 1000000) (ho : Owns w [rrB b x]) :
    Fx Tryz.prog 118 [ptr b] w (Ret w [rrB b x] (fun _ : Unit => .int .u8 (gnum (rfix x (1 : Nat)).1)) (fun _ => [rrB b (rfix x (1 : Nat)).2]) (fun _ => True)) := by
  refine Fx.of Tryz.func118 rfl (by kernel_rfl) Tryz.ntmps118 rfl ho ?_
  refine go (k := ?_)
  refine XL.call [0] [] rfl rfl rfl rfl rfl (fun _ w1 _ ho => get8_ok b x 1 w1 (by decide) hl ho) fun _ _ => ?_
  refine go (k := ?_)
  exact XE.ret1 () [0] rfl rfl trivial rfl rfl rfl
theorem ru16_ok (b : Nat) (x : Rr) (w : World) (hl : x.1.length ≤ 1000000) (ho : Owns w [rrB b x]) :
    Fx Tryz.prog 117 [ptr b] w (Ret w [rrB b x] (fun _ : Unit => .int .u16 (gnum (rfix x (2 : Nat)).1)) (fun _ => [rrB b (rfix x (2 : Nat)).2]) (fun _ => True)) := by
  refine Fx.of Tryz.func117 rfl (by kernel_rfl) Tryz.ntmps117 rfl ho ?_
  refine go (k := ?_)
  refine XL.call [0] [] rfl rfl rfl rfl rfl (fun _ w1 _ ho => get16_ok b x 2 w1 (by decide) hl ho) fun _ _ => ?_
  refine go (k := ?_)
  exact XE.ret1 () [0] rfl rfl trivial rfl rfl rfl
theorem ru32_ok (b : Nat) (x : Rr) (w : World) (hl : x.1.length ≤ 1000000) (ho : Owns w [rrB b x]) :
    Fx Tryz.prog 114 [ptr b] w (Ret w [rrB b x] (fun _ : Unit => .int .u32 (gnum (rfix x (4 : Nat)).1)) (fun _ => [rrB b (rfix x (4 : Nat)).2]) (fun _ => True)) := by
  refine Fx.of Tryz.func114 rfl (by kernel_rfl) Tryz.ntmps114 rfl ho ?_
  refine go (k := ?_)
  refine XL.call [0] [] rfl rfl rfl rfl rfl (fun _ w1 _ ho => get32_ok b x 4 w1 (by decide) hl ho) fun _ _ => ?_
  refine go (k := ?_)
  exact XE.ret1 () [0] rfl rfl trivial rfl rfl rfl
end Go.X
/- Contracts of Go's library, laid at this dump by the kit's commands lay-shelf and lay-plain: strings_Repeat, strings_Trim_one. -/
namespace Go.Proofs
open Go.Shelf
def Tryz.lays160_ren : Go.Shelf.Ren := ⟨fun | 160 => 116 | 232 => 131 | 231 => 130 | 227 => 132 | 234 => 134 | 233 => 133 | 236 => 136 | 235 => 135 | 228 => 139 | 271 => 142 | 151 => 141 | 197 => 140 | 120 => 145 | 152 => 144 | 260 => 143 | 137 => 146 | 119 => 147 | 224 => 148 | 225 => 149 | 217 => 150 | 266 => 151 | n => n, fun | 9 => 9 | 4 => 4 | 3 => 3 | 5 => 5 | 117 => 192 | 116 => 191 | 0 => 0 | 124 => 195 | 21 => 21 | 105 => 199 | 46 => 113 | 119 => 203 | 139 => 206 | 138 => 205 | n => n, fun | 3 => 1 | 4 => 2 | n => n⟩
theorem Tryz.lays160 : Go.Proofs.Lays.n160 Tryz.prog Tryz.lays160_ren := {
  mixed := by kernel_rfl
  f119 := Tryz.func147.trans (congrArg some (by kernel_rfl))
  f120 := Tryz.func145.trans (congrArg some (by kernel_rfl))
  f137 := Tryz.func146.trans (congrArg some (by kernel_rfl))
  f151 := Tryz.func141.trans (congrArg some (by kernel_rfl))
  f152 := Tryz.func144.trans (congrArg some (by kernel_rfl))
  f160 := Tryz.func116.trans (congrArg some (by kernel_rfl))
  f197 := Tryz.func140.trans (congrArg some (by kernel_rfl))
  f217 := Tryz.func150.trans (congrArg some (by kernel_rfl))
  f224 := Tryz.func148.trans (congrArg some (by kernel_rfl))
  f225 := Tryz.func149.trans (congrArg some (by kernel_rfl))
  f227 := Tryz.func132.trans (congrArg some (by kernel_rfl))
  f228 := Tryz.func139.trans (congrArg some (by kernel_rfl))
  f231 := Tryz.func130.trans (congrArg some (by kernel_rfl))
  f232 := Tryz.func131.trans (congrArg some (by kernel_rfl))
  f233 := Tryz.func133.trans (congrArg some (by kernel_rfl))
  f234 := Tryz.func134.trans (congrArg some (by kernel_rfl))
  f235 := Tryz.func135.trans (congrArg some (by kernel_rfl))
  f236 := Tryz.func136.trans (congrArg some (by kernel_rfl))
  f260 := Tryz.func143.trans (congrArg some (by kernel_rfl))
  f266 := Tryz.func151.trans (congrArg some (by kernel_rfl))
  f271 := Tryz.func142.trans (congrArg some (by kernel_rfl))
  t0 := Tryz.underlying0
  a0 := Tryz.isAgg0
  z0 := Tryz.sizeOf0
  v0 := Tryz.zeroValue0
  t3 := Tryz.underlying3
  a3 := Tryz.isAgg3
  z3 := Tryz.sizeOf3
  v3 := Tryz.zeroValue3
  t4 := Tryz.underlying4
  a4 := Tryz.isAgg4
  z4 := Tryz.sizeOf4
  v4 := Tryz.zeroValue4
  t5 := Tryz.underlying5
  a5 := Tryz.isAgg5
  z5 := Tryz.sizeOf5
  v5 := Tryz.zeroValue5
  t9 := Tryz.underlying9
  a9 := Tryz.isAgg9
  z9 := Tryz.sizeOf9
  v9 := Tryz.zeroValue9
  t21 := Tryz.underlying21
  a21 := Tryz.isAgg21
  z21 := Tryz.sizeOf21
  v21 := Tryz.zeroValue21
  t46 := Tryz.underlying113
  a46 := Tryz.isAgg113
  z46 := Tryz.sizeOf113
  v46 := Tryz.zeroValue113
  t105 := Tryz.underlying199
  a105 := Tryz.isAgg199
  z105 := Tryz.sizeOf199
  v105 := Tryz.zeroValue199
  t116 := Tryz.underlying191
  a116 := Tryz.isAgg191
  z116 := Tryz.sizeOf191
  t117 := Tryz.underlying192
  a117 := Tryz.isAgg192
  z117 := Tryz.sizeOf192
  v117 := Tryz.zeroValue192
  t119 := Tryz.underlying203
  a119 := Tryz.isAgg203
  z119 := Tryz.sizeOf203
  t124 := Tryz.underlying195
  a124 := Tryz.isAgg195
  z124 := Tryz.sizeOf195
  v124 := Tryz.zeroValue195
  t138 := Tryz.underlying205
  a138 := Tryz.isAgg205
  z138 := Tryz.sizeOf205
  v138 := Tryz.zeroValue205
  t139 := Tryz.underlying206
  a139 := Tryz.isAgg206
  z139 := Tryz.sizeOf206
  v139 := Tryz.zeroValue206
  g3 := by kernel_rfl
  g4 := by kernel_rfl }
open Go.RowKit in
theorem Tryz.strings_Trim_one (s : ByteArray) (c : UInt8) (hc : c.toNat < 128) (w : World) (hs : s.size ≤ 9223372036854775807) :
    Calls Tryz.prog 116 #[.string s, .string ⟨#[c]⟩] w fun e w' => e = .returned (.string ⟨(Lib.trimB s.data.toList c).toArray⟩) ∧ (w' = w ∨ w' = w.drew) := Any.strings_Trim_one Tryz.lays160 s c hc w hs
def Tryz.lays105_ren : Go.Shelf.Ren := ⟨fun | 105 => 35 | 212 => 70 | 99 => 71 | 165 => 72 | 166 => 73 | 170 => 74 | 169 => 75 | 263 => 103 | 264 => 104 | 206 => 105 | 240 => 106 | 241 => 107 | 276 => 124 | 277 => 125 | n => n, fun | 9 => 9 | 3 => 3 | 4 => 4 | 20 => 20 | 0 => 0 | 46 => 113 | 109 => 114 | 5 => 5 | 72 => 119 | 76 => 123 | 51 => 44 | 146 => 162 | 53 => 164 | 148 => 165 | 70 => 117 | 37 => 88 | 75 => 122 | 127 => 167 | 164 => 180 | 80 => 125 | n => n, fun | n => n⟩
theorem Tryz.lays105 : Go.Proofs.Lays.n105 Tryz.prog Tryz.lays105_ren := {
  mixed := by kernel_rfl
  f99 := Tryz.func71.trans (congrArg some (by kernel_rfl))
  f105 := Tryz.func35.trans (congrArg some (by kernel_rfl))
  f165 := Tryz.func72.trans (congrArg some (by kernel_rfl))
  f166 := Tryz.func73.trans (congrArg some (by kernel_rfl))
  f169 := Tryz.func75.trans (congrArg some (by kernel_rfl))
  f170 := Tryz.func74.trans (congrArg some (by kernel_rfl))
  f206 := Tryz.func105.trans (congrArg some (by kernel_rfl))
  f212 := Tryz.func70.trans (congrArg some (by kernel_rfl))
  f240 := Tryz.func106.trans (congrArg some (by kernel_rfl))
  f241 := Tryz.func107.trans (congrArg some (by kernel_rfl))
  f263 := Tryz.func103.trans (congrArg some (by kernel_rfl))
  f264 := Tryz.func104.trans (congrArg some (by kernel_rfl))
  f276 := Tryz.func124.trans (congrArg some (by kernel_rfl))
  f277 := Tryz.func125.trans (congrArg some (by kernel_rfl))
  t0 := Tryz.underlying0
  a0 := Tryz.isAgg0
  z0 := Tryz.sizeOf0
  v0 := Tryz.zeroValue0
  t3 := Tryz.underlying3
  a3 := Tryz.isAgg3
  z3 := Tryz.sizeOf3
  v3 := Tryz.zeroValue3
  t4 := Tryz.underlying4
  a4 := Tryz.isAgg4
  z4 := Tryz.sizeOf4
  v4 := Tryz.zeroValue4
  t5 := Tryz.underlying5
  a5 := Tryz.isAgg5
  z5 := Tryz.sizeOf5
  v5 := Tryz.zeroValue5
  t9 := Tryz.underlying9
  a9 := Tryz.isAgg9
  z9 := Tryz.sizeOf9
  v9 := Tryz.zeroValue9
  t20 := Tryz.underlying20
  a20 := Tryz.isAgg20
  z20 := Tryz.sizeOf20
  v20 := Tryz.zeroValue20
  t37 := Tryz.underlying88
  a37 := Tryz.isAgg88
  z37 := Tryz.sizeOf88
  v37 := Tryz.zeroValue88
  t46 := Tryz.underlying113
  a46 := Tryz.isAgg113
  z46 := Tryz.sizeOf113
  v46 := Tryz.zeroValue113
  t51 := Tryz.underlying44
  a51 := Tryz.isAgg44
  z51 := Tryz.sizeOf44
  v51 := Tryz.zeroValue44
  t53 := Tryz.underlying164
  a53 := Tryz.isAgg164
  z53 := Tryz.sizeOf164
  v53 := Tryz.zeroValue164
  t70 := Tryz.underlying117
  a70 := Tryz.isAgg117
  z70 := Tryz.sizeOf117
  v70 := Tryz.zeroValue117
  t72 := Tryz.underlying119
  a72 := Tryz.isAgg119
  z72 := Tryz.sizeOf119
  v72 := Tryz.zeroValue119
  t75 := Tryz.underlying122
  a75 := Tryz.isAgg122
  z75 := Tryz.sizeOf122
  v75 := Tryz.zeroValue122
  t76 := Tryz.underlying123
  a76 := Tryz.isAgg123
  z76 := Tryz.sizeOf123
  v76 := Tryz.zeroValue123
  t109 := Tryz.underlying114
  a109 := Tryz.isAgg114
  z109 := Tryz.sizeOf114
  v109 := Tryz.zeroValue114
  t127 := Tryz.underlying167
  a127 := Tryz.isAgg167
  z127 := Tryz.sizeOf167
  v127 := Tryz.zeroValue167
  t146 := Tryz.underlying162
  a146 := Tryz.isAgg162
  z146 := Tryz.sizeOf162
  v146 := Tryz.zeroValue162
  t148 := Tryz.underlying165
  a148 := Tryz.isAgg165
  z148 := Tryz.sizeOf165
  v148 := Tryz.zeroValue165
  t164 := Tryz.underlying180
  a164 := Tryz.isAgg180
  z164 := Tryz.sizeOf180
  v164 := Tryz.zeroValue180 }
theorem Tryz.Builder_Extra_105 : Builder.Extra Tryz.prog Tryz.lays105_ren := {
  sizeBuilder := by kernel_rfl
  liesBuilder := by kernel_rfl
  t5 := Tryz.underlying5
  a5 := Tryz.isAgg5
  z5 := Tryz.sizeOf5
  v5 := Tryz.zeroValue5
  infoByte := by kernel_rfl
  cellsByte := by kernel_rfl
  sizeByte := by kernel_rfl
  neB5 := by decide }
open Go.RowKit Go.Lib in
theorem Tryz.strings_Repeat (s : ByteArray) (c : Nat) (w : World) (hc : c ≤ 9223372036854775807) (hlen : s.size * c ≤ 140737488355328) :
    Calls Tryz.prog 35 #[.string s, .int .i64 c] w fun e w' => e = .returned (.string ⟨(Lib.repeatL s.data.toList c).toArray⟩) ∧ Below w.heap.size w w' := Any.strings_Repeat Tryz.lays105 Tryz.Builder_Extra_105 s c w hc hlen
end Go.Proofs
/- strings.Repeat, by the shelf's contract. -/
namespace Go.X
open Go Go.Proofs
theorem Fx.ofBelow {P : Program} {f : FuncId} {fn : Func} {c : Code} {args : List Value} {w : World} {v : Value} (hf : P.funcs[f]? = some fn) (hb : fn.body = some c) (hname : (fn.name == "runtime.NumGoroutine") = false)
    (h : Calls P f args.toArray w fun e w' => e = .returned v ∧ Go.RowKit.Below w.heap.size w w') : Fx P f args w (Ret w [] (fun _ : Unit => v) (fun _ => []) (fun _ => True)) := by
  constructor
  · intro us w
    have hbn : fn.body.isNone = false := by rw [hb]; rfl
    simp only [callFunc, program, Sem.run_bind, Sem.run, Result.andThen, hf, hname, hbn, Bool.false_eq_true, if_false]
    rfl
  · refine h.mono fun e w' he => ?_
    obtain ⟨rfl, hk⟩ := he
    exact ⟨(), trivial, rfl, Owns.nil _, ⟨hk.os, hk.tape, hk.output, hk.size, fun b hb _ => hk.block b hb, fun a ha => by simp only [World.frozen?, hk.block a.block ha]⟩, fun b hb => by cases hb⟩
theorem repeat_ok (l : List UInt8) (c : Nat) (w : World) (h : l.length * c ≤ 1000000) (hc : c ≤ 1000000) :
    Fx Tryz.prog 35 [.string ⟨⟨l⟩⟩, .int .i64 c] w (Ret w [] (fun _ : Unit => .string ⟨⟨Lib.repeatL l c⟩⟩) (fun _ => []) (fun _ => True)) :=
  Fx.ofBelow Tryz.func35 rfl (by kernel_rfl) (Tryz.strings_Repeat ⟨⟨l⟩⟩ c w (by omega) (by show l.length * c ≤ _; omega))
end Go.X
/- Package region: what has no line. -/
namespace Go.X
open Go Go.Proofs
theorem Fx.ofDrew {P : Program} {f : FuncId} {fn : Func} {c : Code} {args : List Value} {w : World} {v : Value} (hf : P.funcs[f]? = some fn) (hb : fn.body = some c) (hname : (fn.name == "runtime.NumGoroutine") = false)
    (h : Calls P f args.toArray w fun e w' => e = .returned v ∧ (w' = w ∨ w' = w.drew)) : Fx P f args w (Pure w v) := by
  constructor
  · intro us w
    have hbn : fn.body.isNone = false := by rw [hb]; rfl
    simp only [callFunc, program, Sem.run_bind, Sem.run, Result.andThen, hf, hname, hbn, Bool.false_eq_true, if_false]
    rfl
  · refine h.mono fun e w' he => ?_
    obtain ⟨rfl, hk⟩ := he
    have hk' : Kept [] w w' := by
      rcases hk with rfl | rfl
      · exact .refl _ _
      · exact Kept.drawn [] w (w.drawn + 1)
    exact ⟨(), trivial, rfl, Owns.nil _, hk', fun b hb => by cases hb⟩
theorem trim_ok (l : List UInt8) (w : World) (h : l.length ≤ 1000000) : Fx Tryz.prog 116 [str l, str [0]] w (Pure w (str (Lib.trimB l 0))) :=
  Fx.ofDrew Tryz.func116 rfl (by kernel_rfl) (Tryz.strings_Trim_one ⟨⟨l⟩⟩ 0 (by decide) w (by show l.length ≤ _; omega))
theorem noughts_ok (n : Nat) (w : World) (h : n ≤ 1000000) : Fx Tryz.prog 95 [iv n] w (Pure w (str (zbytes n))) := by
  have hrep : ∀ w, Fx Tryz.prog 35 [str [0], iv n] w (Pure w (str (zbytes n))) := fun w => by
    have h := repeat_ok [0] n w (by simp; omega) (by omega)
    have e := Lib.repeatL_replicate 0 1 n
    rw [Nat.mul_one] at e
    rw [show List.replicate 1 (0 : UInt8) = [0] from rfl] at e
    rw [e] at h
    exact h
  refine Fx.of (L0 := []) Tryz.func95 rfl (by kernel_rfl) Tryz.ntmps95 rfl (Owns.nil w) ?_
  refine go (k := ?_)
  refine XL.q (.call rfl rfl fun _ w _ => hrep w) rfl ?_
  refine go (k := ?_)
  exact XE.ret1 () [] rfl rfl trivial rfl rfl rfl
/-- how many blocks a group of so many bytes needs -/
def nd (n : Nat) : Nat := if n ≤ 58 then 1 else (n - 1) / 58 + 1
theorem needs_ok (n : Nat) (w : World) (h : n ≤ 1000000) : Fx Tryz.prog 20 [iv n] w (Pure w (iv (nd n))) := by
  refine Fx.of (L0 := []) Tryz.func20 rfl (by kernel_rfl) Tryz.ntmps20 rfl (Owns.nil w) ?_
  by_cases h1 : n ≤ 58
  · have e : nd n = 1 := by unfold nd; rw [if_pos h1]
    rw [e]
    have h1' : (n : Int) ≤ 58 := by omega
    refine go (k := ?_)
    exact XE.ret1 () [] rfl rfl trivial rfl rfl rfl
  · have e : nd n = (n - 1) / 58 + 1 := by unfold nd; rw [if_neg h1]
    rw [e]
    have h1' : ¬ (n : Int) ≤ 58 := by omega
    refine go (k := ?_)
    refine XE.ret1 () [] rfl rfl trivial ?_ rfl rfl
    have : ((n : Int) - 1) / 58 + 1 = (((n - 1) / 58 + 1 : Nat) : Int) := by omega
    rw [this]
/-- the generation of a block; 0 if it is not whole -/
def hdr (s : List UInt8) : Nat :=
  if Lib.trimB (rfix (rfix (s, 0) (4 : Nat)).2 (56 : Nat)).1 0 = [] ∧ gnum (rfix (rfix (rfix (s, 0) (4 : Nat)).2 (56 : Nat)).2 (4 : Nat)).1 = gnum (rfix (s, 0) (4 : Nat)).1 then gnum (rfix (s, 0) (4 : Nat)).1 else 0
theorem rfix_rest (x : Rr) (n : Int) : (rfix x n).2.1.length ≤ x.1.length ∧ (rfix x n).1.length ≤ x.1.length := by
  unfold rfix
  split
  · exact ⟨Nat.le_refl _, Nat.zero_le _⟩
  · split
    · exact ⟨Nat.zero_le _, Nat.zero_le _⟩
    · simp only [List.length_take, List.length_drop]; omega
theorem header_ok (s : List UInt8) (w : World) (hs : s.length ≤ 1000) : Fx Tryz.prog 84 [str s] w (Pure w (.int .u32 (hdr s))) := by
  unfold hdr
  obtain ⟨a, ha⟩ : ∃ a, a = rfix (s, 0) (4 : Nat) := ⟨_, rfl⟩
  obtain ⟨m, hm⟩ : ∃ m, m = rfix a.2 (56 : Nat) := ⟨_, rfl⟩
  obtain ⟨c, hc⟩ : ∃ c, c = rfix m.2 (4 : Nat) := ⟨_, rfl⟩
  have la := rfix_rest (s, 0) (4 : Nat); have lm := rfix_rest a.2 (56 : Nat)
  rw [← ha] at la; rw [← hm] at lm
  simp only at la
  rw [← ha, ← hm, ← hc]
  refine Fx.of (L0 := []) Tryz.func84 rfl (by kernel_rfl) Tryz.ntmps84 rfl (Owns.nil w) ?_
  refine go (k := ?_)
  refine XL.call [] [] rfl rfl rfl rfl rfl (fun _ w _ _ => rnewr_ok s w) fun b _ => ?_
  refine go (k := ?_)
  refine XL.call [0] [] rfl rfl rfl rfl rfl (fun _ w _ ho => ru32_ok b (s, 0) w (by simp only; omega) ho) fun _ _ => ?_
  rw [← ha]
  refine XL.nm (M := [rrB b a.2]) ?_ rfl
  refine go (k := ?_)
  refine XL.call [0] [] rfl rfl rfl rfl rfl (fun _ w _ ho => rfixed_ok b a.2 (56 : Nat) w (by omega) ho) fun _ _ => ?_
  rw [← hm]
  refine XL.nm (M := [rrB b m.2]) ?_ rfl
  refine go (k := ?_)
  refine XL.q (.call rfl rfl fun _ w _ => trim_ok m.1 w (by omega)) rfl ?_
  by_cases ht : Lib.trimB m.1 0 = []
  · rw [ht]
    refine go (k := ?_)
    refine XL.call [0] [] rfl rfl rfl rfl rfl (fun _ w _ ho => ru32_ok b m.2 w (by omega) ho) fun _ _ => ?_
    rw [← hc]
    by_cases hg : gnum c.1 = gnum a.1
    · rw [if_pos ⟨rfl, hg⟩]
      have hg' : (gnum c.1 : Int) = (gnum a.1 : Int) := by rw [hg]
      rw [hg]
      refine go (k := ?_)
      exact XE.ret1 () [] rfl rfl trivial rfl rfl rfl
    · rw [if_neg (fun h => hg h.2)]
      have hg' : ¬ (gnum c.1 : Int) = (gnum a.1 : Int) := by omega
      refine go (k := ?_)
      exact XE.ret1 () [] rfl rfl trivial rfl rfl rfl
  · rw [if_neg (fun h => ht h.1)]
    refine go (k := ?_)
    exact XE.ret1 () [] rfl rfl trivial rfl rfl rfl
/-- what a log block of a number has: its text, whether a group ends with it, whether it is whole -/
def pce (i : Nat) (s : List UInt8) : List UInt8 × Bool × Bool :=
  let h := rfix (s, 0) (2 : Nat); let f := rfix h.2 (1 : Nat); let k := rfix f.2 (1 : Nat)
  if gnum h.1 ≠ i ∨ 1 < gnum f.1 ∨ 58 < gnum k.1 ∨ (gnum f.1 = 0 ∧ gnum k.1 < 58) then ([], false, false)
  else
    let t := rfix k.2 (gnum k.1 : Nat); let z := rfix t.2 (58 - gnum k.1 : Nat); let e := rfix z.2 (2 : Nat)
    (t.1, decide (gnum f.1 = 1), decide (gnum e.1 = i ∧ Lib.trimB z.1 0 = []))
set_option maxHeartbeats 1000000 in
theorem piece_ok (i : Nat) (s : List UInt8) (w : World) (_hi : i ≤ 1000000) (hs : s.length ≤ 1000) : Fx Tryz.prog 85 [iv i, str s] w (Pure w (.tuple #[str (pce i s).1, .bool (pce i s).2.1, .bool (pce i s).2.2])) := by
  unfold pce
  obtain ⟨h, hh⟩ : ∃ h, h = rfix (s, 0) (2 : Nat) := ⟨_, rfl⟩
  obtain ⟨f, hf⟩ : ∃ f, f = rfix h.2 (1 : Nat) := ⟨_, rfl⟩
  obtain ⟨k, hk⟩ : ∃ k, k = rfix f.2 (1 : Nat) := ⟨_, rfl⟩
  obtain ⟨t, ht⟩ : ∃ t, t = rfix k.2 (gnum k.1 : Nat) := ⟨_, rfl⟩
  obtain ⟨z, hz⟩ : ∃ z, z = rfix t.2 (58 - gnum k.1 : Nat) := ⟨_, rfl⟩
  obtain ⟨e, he⟩ : ∃ e, e = rfix z.2 (2 : Nat) := ⟨_, rfl⟩
  have lh := rfix_rest (s, 0) (2 : Nat); have lf := rfix_rest h.2 (1 : Nat); have lk := rfix_rest f.2 (1 : Nat); have lt := rfix_rest k.2 (gnum k.1 : Nat); have lz := rfix_rest t.2 (58 - gnum k.1 : Nat)
  rw [← hh] at lh; rw [← hf] at lf; rw [← hk] at lk; rw [← ht] at lt; rw [← hz] at lz
  simp only at lh
  simp only [← hh, ← hf, ← hk, ← ht, ← hz, ← he]
  have bh : gnum h.1 < 65536 := Nat.lt_of_lt_of_le (gnum_lt h.1) (Nat.pow_le_pow_right (by decide) (by rw [hh]; exact rfix_len (s, 0) 2) : 256 ^ h.1.length ≤ 256 ^ 2)
  have bf : gnum f.1 < 256 := Nat.lt_of_lt_of_le (gnum_lt f.1) (Nat.pow_le_pow_right (by decide) (by rw [hf]; exact rfix_len h.2 1) : 256 ^ f.1.length ≤ 256 ^ 1)
  have bk : gnum k.1 < 256 := Nat.lt_of_lt_of_le (gnum_lt k.1) (Nat.pow_le_pow_right (by decide) (by rw [hk]; exact rfix_len f.2 1) : 256 ^ k.1.length ≤ 256 ^ 1)
  have b2 : gnum e.1 < 65536 := Nat.lt_of_lt_of_le (gnum_lt e.1) (Nat.pow_le_pow_right (by decide) (by rw [he]; exact rfix_len z.2 2) : 256 ^ e.1.length ≤ 256 ^ 2)
  refine Fx.of (L0 := []) Tryz.func85 rfl (by kernel_rfl) Tryz.ntmps85 rfl (Owns.nil w) ?_
  refine go (k := ?_)
  refine XL.call [] [] rfl rfl rfl rfl rfl (fun _ w _ _ => rnewr_ok s w) fun b _ => ?_
  refine go (k := ?_)
  refine XL.call [0] [] rfl rfl rfl rfl rfl (fun _ w _ ho => ru16_ok b (s, 0) w (by simp only; omega) ho) fun _ _ => ?_
  rw [← hh]
  refine XL.nm (M := [rrB b h.2]) ?_ rfl
  refine go (k := ?_)
  refine XL.call [0] [] rfl rfl rfl rfl rfl (fun _ w _ ho => ru8_ok b h.2 w (by omega) ho) fun _ _ => ?_
  rw [← hf]
  refine XL.nm (M := [rrB b f.2]) ?_ rfl
  refine go (k := ?_)
  refine XL.call [0] [] rfl rfl rfl rfl rfl (fun _ w _ ho => ru8_ok b f.2 w (by omega) ho) fun _ _ => ?_
  rw [← hk]
  refine XL.nm (M := [rrB b k.2]) ?_ rfl
  refine go (k := ?_)
  by_cases hbad : gnum h.1 ≠ i ∨ 1 < gnum f.1 ∨ 58 < gnum k.1 ∨ (gnum f.1 = 0 ∧ gnum k.1 < 58)
  · simp only [if_pos hbad]
    by_cases c1 : (gnum h.1 : Int) = (i : Int)
    · by_cases c2 : (1 : Int) < (gnum f.1 : Int)
      · refine go (k := ?_)
        exact XE.ret3 () [] rfl rfl rfl rfl trivial rfl rfl rfl
      · by_cases c3 : (58 : Int) < (gnum k.1 : Int)
        · refine go (k := ?_)
          exact XE.ret3 () [] rfl rfl rfl rfl trivial rfl rfl rfl
        · have c4 : (gnum f.1 : Int) = 0 := by omega
          have c5 : (gnum k.1 : Int) < 58 := by omega
          refine go (k := ?_)
          exact XE.ret3 () [] rfl rfl rfl rfl trivial rfl rfl rfl
    · refine go (k := ?_)
      exact XE.ret3 () [] rfl rfl rfl rfl trivial rfl rfl rfl
  · simp only [if_neg hbad]
    have c1 : (gnum h.1 : Int) = (i : Int) := by omega
    have c2 : ¬ (1 : Int) < (gnum f.1 : Int) := by omega
    have c3 : ¬ (58 : Int) < (gnum k.1 : Int) := by omega
    by_cases c4 : (gnum f.1 : Int) = 0
    · have c5 : ¬ (gnum k.1 : Int) < 58 := by omega
      refine go (k := ?_)
      refine XL.call [0] [] rfl rfl rfl rfl rfl (fun _ w _ ho => rfixed_ok b k.2 (gnum k.1 : Nat) w (by omega) ho) fun _ _ => ?_
      rw [← ht]
      refine XL.nm (M := [rrB b t.2]) ?_ rfl
      refine go (k := ?_)
      rw [show (58 : Int) - (gnum k.1 : Int) = ((58 - gnum k.1 : Nat) : Int) by omega]
      refine XL.call [0] [] rfl rfl rfl rfl rfl (fun _ w _ ho => rfixed_ok b t.2 (58 - gnum k.1 : Nat) w (by omega) ho) fun _ _ => ?_
      rw [← hz]
      refine XL.nm (M := [rrB b z.2]) ?_ rfl
      refine go (k := ?_)
      refine XL.call [0] [] rfl rfl rfl rfl rfl (fun _ w _ ho => ru16_ok b z.2 w (by omega) ho) fun _ _ => ?_
      rw [← he]
      by_cases c6 : (gnum e.1 : Int) = (i : Int)
      · refine go (k := ?_)
        refine XL.q (.call rfl rfl fun _ w _ => trim_ok z.1 w (by omega)) rfl ?_
        refine go (k := ?_)
        refine XE.ret3 () [] rfl rfl rfl rfl trivial ?_ rfl rfl
        have c7 : gnum e.1 = i := by omega
        simp [c7]
        try omega
      · refine go (k := ?_)
        refine XE.ret3 () [] rfl rfl rfl rfl trivial ?_ rfl rfl
        have c7 : ¬ gnum e.1 = i := by omega
        simp [c7]
        try omega
    · refine go (k := ?_)
      refine XL.call [0] [] rfl rfl rfl rfl rfl (fun _ w _ ho => rfixed_ok b k.2 (gnum k.1 : Nat) w (by omega) ho) fun _ _ => ?_
      rw [← ht]
      refine XL.nm (M := [rrB b t.2]) ?_ rfl
      refine go (k := ?_)
      rw [show (58 : Int) - (gnum k.1 : Int) = ((58 - gnum k.1 : Nat) : Int) by omega]
      refine XL.call [0] [] rfl rfl rfl rfl rfl (fun _ w _ ho => rfixed_ok b t.2 (58 - gnum k.1 : Nat) w (by omega) ho) fun _ _ => ?_
      rw [← hz]
      refine XL.nm (M := [rrB b z.2]) ?_ rfl
      refine go (k := ?_)
      refine XL.call [0] [] rfl rfl rfl rfl rfl (fun _ w _ ho => ru16_ok b z.2 w (by omega) ho) fun _ _ => ?_
      rw [← he]
      by_cases c6 : (gnum e.1 : Int) = (i : Int)
      · refine go (k := ?_)
        refine XL.q (.call rfl rfl fun _ w _ => trim_ok z.1 w (by omega)) rfl ?_
        refine go (k := ?_)
        refine XE.ret3 () [] rfl rfl rfl rfl trivial ?_ rfl rfl
        have c7 : gnum e.1 = i := by omega
        simp [c7]
        try omega
      · refine go (k := ?_)
        refine XE.ret3 () [] rfl rfl rfl rfl trivial ?_ rfl rfl
        have c7 : ¬ gnum e.1 = i := by omega
        simp [c7]
        try omega
end Go.X
