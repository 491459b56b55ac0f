/- Package region: the blocks of a group. -/
import Derived.Test.YtmmofanfgoahkaaGreatDoorZ14
import Derived.Test.YtmmofanfgoahkaaGreatDoorCall
import Derived.RowKit3
import Derived.Carry
import Derived.OpenShut
import Derived.ShutString
import Derived.Deep.Slices
import Derived.Test.YtmmofanfgoahkaaGreatDoorZ9
namespace Go.X
open Go Go.Proofs
def gend (n k : Nat) : Nat := if k + 1 = nd n then n else (k + 1) * 58
def gpc (s : List UInt8) (k : Nat) : List UInt8 := (s.take (gend s.length k)).drop (k * 58)
def gfl (n k : Nat) : Nat := if k + 1 = nd n then 1 else 0
/-- a log block -/
def rblk (i fl : Nat) (p : List UInt8) : List UInt8 := [] ++ be i 2 ++ be fl 1 ++ be p.length 1 ++ p ++ zbytes (58 - p.length) ++ be i 2
def gblk (f : Nat) (s : List UInt8) (k : Nat) : List UInt8 := rblk (f + k) (gfl s.length k) (gpc s k)
def gitems (f : Nat) (s : List UInt8) : List (List Value) := (List.range (nd s.length)).map fun k => [iv ((f + k : Nat) : Int), str (gblk f s k)]
theorem nd_pos (n : Nat) : 0 < nd n := by unfold nd; split <;> omega
theorem nd_le (n : Nat) : nd n ≤ n + 1 := by unfold nd; split <;> omega
theorem nd_spec (n : Nat) : n ≤ nd n * 58 ∧ (nd n - 1) * 58 ≤ n := by unfold nd; split <;> omega
theorem gend_bd {n k : Nat} (h : k < nd n) : k * 58 ≤ gend n k ∧ gend n k ≤ n ∧ gend n k ≤ (k + 1) * 58 ∧ (k + 1 ≠ nd n → gend n k = (k + 1) * 58) := by
  have h0 := nd_spec n
  unfold gend
  by_cases e : k + 1 = nd n
  · rw [if_pos e]; exact ⟨by omega, Nat.le_refl _, by omega, fun h => absurd e h⟩
  · rw [if_neg e]; exact ⟨by omega, by omega, Nat.le_refl _, fun _ => rfl⟩
theorem gpc_len {s : List UInt8} {k : Nat} (h : k < nd s.length) : (gpc s k).length ≤ 58 := by
  obtain ⟨h1, h2, h3, _⟩ := gend_bd h
  unfold gpc
  rw [List.length_drop, List.length_take]; omega
theorem gblocks_ok (f : Int) (s : List UInt8) (w : World) : Fx Tryz.prog 77 [iv f, str s] w (Ret w [] (fun x : Nat × Nat => .func (.func 108) #[] #[ptr x.2, ptr x.1]) (fun x => [.blk x.1 [iv f] 3, .blk x.2 [str s] 9]) (fun _ => True)) := by
  refine Fx.of (L0 := []) Tryz.func77 rfl (by kernel_rfl) Tryz.ntmps77 rfl (Owns.nil w) ?_
  refine go (k := ?_)
  refine XL.box (zs := [iv f]) rfl rfl rfl fun bf => ?_
  refine go (k := ?_)
  refine XL.box (zs := [str s]) rfl rfl rfl fun bs => ?_
  refine go (k := ?_)
  exact XE.ret1 (bf, bs) [1, 0] rfl rfl trivial rfl rfl rfl
set_option maxHeartbeats 1000000 in
theorem blocks_seq (bf bs f : Nat) (s : List UInt8) (hs : s.length ≤ 900000) (hf : f + nd s.length ≤ 65536) :
    Seq Tryz.prog 108 [] [ptr bs, ptr bf] [.blk bf [iv f] 3, .blk bs [str s] 9] (gitems f s) := by
  intro α β l M φ Z ψ w x0 hx0 ho hy
  refine Fx.of Tryz.func108 rfl (by kernel_rfl) Tryz.ntmps108 rfl ho ?_
  refine go (k := ?_)
  refine XL.q (.call rfl rfl fun _ w _ => needs_ok s.length w (by omega)) rfl ?_
  refine go (k := ?_)
  have hil : (gitems f s).length = nd s.length := by unfold gitems; rw [List.length_map, List.length_range]
  refine XC.loop (α := Nat × α) (fun x => [(0, yv l), (1, ptr bs), (2, ptr bf), (4, iv (nd s.length)), (11, iv (nd s.length)), (12, iv x.1)]) (fun x => [.blk bf [iv f] 3, .blk bs [str s] 9, M x.2])
    (fun x => x.1 ≤ nd s.length ∧ φ x.1 x.2) (fun x => nd s.length - x.1) (0, x0) [0, 1, 2] ⟨Nat.zero_le _, hx0⟩ ⟨rfl, rfl, rfl, rfl, rfl, rfl, trivial⟩ rfl rfl ?_
  rintro ⟨k, x⟩ ⟨hk, hx⟩
  simp only at hk hx ⊢
  by_cases hlt : k < nd s.length
  · obtain ⟨g1, g2, g3, g4⟩ := gend_bd hlt
    have hit : (gitems f s)[k]? = some [iv ((f + k : Nat) : Int), str (gblk f s k)] := by
      unfold gitems; rw [List.getElem?_map, List.getElem?_range hlt]; rfl
    have hlen := nd_le s.length
    have hpl := gpc_len hlt
    refine go (k := ?_)
    have h0 := nd_spec s.length
    rw [show (if (s.length : Int) < ((k : Int) + 1) * 58 then (s.length : Int) else ((k : Int) + 1) * 58) = ((gend s.length k : Nat) : Int) by unfold gend; split <;> split <;> omega]
    rw [show (k : Int) * 58 = ((k * 58 : Nat) : Int) by omega]
    refine go (k := ?_)
    rw [show (s.take (gend s.length k)).drop (k * 58) = gpc s k from rfl]
    refine XL.alloc rfl rfl rfl fun bw => ?_
    refine XL.addNil 5 1 ?_
    have hfk : (f : Int) + (k : Int) < 65536 := by omega
    refine go (k := ?_)
    rw [show (f : Int) + (k : Int) = ((f + k : Nat) : Int) by omega]
    refine XL.call [1, 0] [2, 3, 4] rfl rfl rfl rfl rfl (fun _ w _ ho => wu16_ok bw (.slice none 0 0) [] (f + k) w (by omega) (by simp) ho) fun v1 _ => ?_
    refine XL.nm (M := wrG bw v1 ([] ++ be (f + k) 2) ++ [.blk bf [iv f] 3, .blk bs [str s] 9, M x]) ?_ rfl
    refine go (k := ?_)
    by_cases hl : k + 1 = nd s.length
    · have hl' : (k : Int) = (nd s.length : Int) - 1 := by omega
      refine go (k := ?_)
      refine XL.call [0, 1] [2, 3, 4] rfl rfl rfl rfl rfl (fun _ w _ ho => wu8_ok bw v1 ([] ++ be (f + k) 2) 1 w (by decide) (by simp [be_len]) ho) fun v2 _ => ?_
      refine XL.nm (M := wrG bw v2 ([] ++ be (f + k) 2 ++ be 1 1) ++ [.blk bf [iv f] 3, .blk bs [str s] 9, M x]) ?_ rfl
      refine go (k := ?_)
      refine XL.call [0, 1] [2, 3, 4] rfl rfl rfl rfl rfl (fun _ w _ ho => wu8_ok bw v2 ([] ++ be (f + k) 2 ++ be 1 1) (gpc s k).length w (by omega) (by simp [be_len]) ho) fun v3 _ => ?_
      refine XL.nm (M := wrG bw v3 ([] ++ be (f + k) 2 ++ be 1 1 ++ be (gpc s k).length 1) ++ [.blk bf [iv f] 3, .blk bs [str s] 9, M x]) ?_ rfl
      refine go (k := ?_)
      refine XL.call [0, 1] [2, 3, 4] rfl rfl rfl rfl rfl (fun _ w _ ho => wraw_ok bw v3 ([] ++ be (f + k) 2 ++ be 1 1 ++ be (gpc s k).length 1) (gpc s k) w (by simp [be_len]; omega) ho) fun v4 _ => ?_
      refine XL.nm (M := wrG bw v4 ([] ++ be (f + k) 2 ++ be 1 1 ++ be (gpc s k).length 1 ++ gpc s k) ++ [.blk bf [iv f] 3, .blk bs [str s] 9, M x]) ?_ rfl
      refine go (k := ?_)
      rw [show (58 : Int) - ((gpc s k).length : Int) = ((58 - (gpc s k).length : Nat) : Int) by omega]
      refine XL.q (.call rfl rfl fun _ w _ => noughts_ok (58 - (gpc s k).length) w (by omega)) rfl ?_
      refine go (k := ?_)
      refine XL.call [0, 1] [2, 3, 4] rfl rfl rfl rfl rfl (fun _ w _ ho => wraw_ok bw v4 ([] ++ be (f + k) 2 ++ be 1 1 ++ be (gpc s k).length 1 ++ gpc s k) (zbytes (58 - (gpc s k).length)) w (by simp [be_len, zbytes_len]; omega) ho) fun v5 _ => ?_
      refine XL.nm (M := wrG bw v5 ([] ++ be (f + k) 2 ++ be 1 1 ++ be (gpc s k).length 1 ++ gpc s k ++ zbytes (58 - (gpc s k).length)) ++ [.blk bf [iv f] 3, .blk bs [str s] 9, M x]) ?_ rfl
      refine go (k := ?_)
      rw [show (f : Int) + (k : Int) = ((f + k : Nat) : Int) by omega]
      refine XL.call [0, 1] [2, 3, 4] rfl rfl rfl rfl rfl (fun _ w _ ho => wu16_ok bw v5 ([] ++ be (f + k) 2 ++ be 1 1 ++ be (gpc s k).length 1 ++ gpc s k ++ zbytes (58 - (gpc s k).length)) (f + k) w (by omega) (by simp [be_len, zbytes_len]; omega) ho) fun v6 _ => ?_
      refine XL.nm (M := wrG bw v6 ([] ++ be (f + k) 2 ++ be 1 1 ++ be (gpc s k).length 1 ++ gpc s k ++ zbytes (58 - (gpc s k).length) ++ be (f + k) 2) ++ [.blk bf [iv f] 3, .blk bs [str s] 9, M x]) ?_ rfl
      refine go (k := ?_)
      have hgb : gblk f s k = [] ++ be (f + k) 2 ++ be 1 1 ++ be (gpc s k).length 1 ++ gpc s k ++ zbytes (58 - (gpc s k).length) ++ be (f + k) 2 := by unfold gblk rblk gfl; rw [if_pos hl]
      rw [show (f : Int) + (k : Int) = ((f + k : Nat) : Int) by omega]
      refine XD.q (.call (v := str (gblk f s k)) rfl rfl fun _ w hs => by rw [hgb]; exact wbytes_ok bw v6 _ w (hs.own.pick (is := [0, 1]) (by decide))) rfl ?_
      refine go (k := ?_)
      refine XL.yield [2, 3, 4] [] rfl rfl rfl rfl rfl (fun a w' hs ho' => hy _ _ x w' hit hx ho' hs.kept fun b hb => hs.wr b (by rw [ids_append]; exact List.mem_append_right _ hb)) fun z hz' => ?_
      rcases z with x' | y
      · refine go (k := ?_)
        exact XE.mid (k + 1, x') [0, 1, 2] ⟨⟨by simp only; omega, hz'⟩, by simp only; omega⟩ ⟨rfl, rfl, rfl, rfl, rfl, rfl, trivial⟩ rfl rfl
      · refine go (k := ?_)
        exact XE.ret0 (Sum.inr y) [0] rfl hz' rfl rfl rfl
    · have hl' : ¬ (k : Int) = (nd s.length : Int) - 1 := by omega
      refine go (k := ?_)
      refine XL.call [0, 1] [2, 3, 4] rfl rfl rfl rfl rfl (fun _ w _ ho => wu8_ok bw v1 ([] ++ be (f + k) 2) 0 w (by decide) (by simp [be_len]) ho) fun v2 _ => ?_
      refine XL.nm (M := wrG bw v2 ([] ++ be (f + k) 2 ++ be 0 1) ++ [.blk bf [iv f] 3, .blk bs [str s] 9, M x]) ?_ rfl
      refine go (k := ?_)
      refine XL.call [0, 1] [2, 3, 4] rfl rfl rfl rfl rfl (fun _ w _ ho => wu8_ok bw v2 ([] ++ be (f + k) 2 ++ be 0 1) (gpc s k).length w (by omega) (by simp [be_len]) ho) fun v3 _ => ?_
      refine XL.nm (M := wrG bw v3 ([] ++ be (f + k) 2 ++ be 0 1 ++ be (gpc s k).length 1) ++ [.blk bf [iv f] 3, .blk bs [str s] 9, M x]) ?_ rfl
      refine go (k := ?_)
      refine XL.call [0, 1] [2, 3, 4] rfl rfl rfl rfl rfl (fun _ w _ ho => wraw_ok bw v3 ([] ++ be (f + k) 2 ++ be 0 1 ++ be (gpc s k).length 1) (gpc s k) w (by simp [be_len]; omega) ho) fun v4 _ => ?_
      refine XL.nm (M := wrG bw v4 ([] ++ be (f + k) 2 ++ be 0 1 ++ be (gpc s k).length 1 ++ gpc s k) ++ [.blk bf [iv f] 3, .blk bs [str s] 9, M x]) ?_ rfl
      refine go (k := ?_)
      rw [show (58 : Int) - ((gpc s k).length : Int) = ((58 - (gpc s k).length : Nat) : Int) by omega]
      refine XL.q (.call rfl rfl fun _ w _ => noughts_ok (58 - (gpc s k).length) w (by omega)) rfl ?_
      refine go (k := ?_)
      refine XL.call [0, 1] [2, 3, 4] rfl rfl rfl rfl rfl (fun _ w _ ho => wraw_ok bw v4 ([] ++ be (f + k) 2 ++ be 0 1 ++ be (gpc s k).length 1 ++ gpc s k) (zbytes (58 - (gpc s k).length)) w (by simp [be_len, zbytes_len]; omega) ho) fun v5 _ => ?_
      refine XL.nm (M := wrG bw v5 ([] ++ be (f + k) 2 ++ be 0 1 ++ be (gpc s k).length 1 ++ gpc s k ++ zbytes (58 - (gpc s k).length)) ++ [.blk bf [iv f] 3, .blk bs [str s] 9, M x]) ?_ rfl
      refine go (k := ?_)
      rw [show (f : Int) + (k : Int) = ((f + k : Nat) : Int) by omega]
      refine XL.call [0, 1] [2, 3, 4] rfl rfl rfl rfl rfl (fun _ w _ ho => wu16_ok bw v5 ([] ++ be (f + k) 2 ++ be 0 1 ++ be (gpc s k).length 1 ++ gpc s k ++ zbytes (58 - (gpc s k).length)) (f + k) w (by omega) (by simp [be_len, zbytes_len]; omega) ho) fun v6 _ => ?_
      refine XL.nm (M := wrG bw v6 ([] ++ be (f + k) 2 ++ be 0 1 ++ be (gpc s k).length 1 ++ gpc s k ++ zbytes (58 - (gpc s k).length) ++ be (f + k) 2) ++ [.blk bf [iv f] 3, .blk bs [str s] 9, M x]) ?_ rfl
      refine go (k := ?_)
      have hgb : gblk f s k = [] ++ be (f + k) 2 ++ be 0 1 ++ be (gpc s k).length 1 ++ gpc s k ++ zbytes (58 - (gpc s k).length) ++ be (f + k) 2 := by unfold gblk rblk gfl; rw [if_neg hl]
      rw [show (f : Int) + (k : Int) = ((f + k : Nat) : Int) by omega]
      refine XD.q (.call (v := str (gblk f s k)) rfl rfl fun _ w hs => by rw [hgb]; exact wbytes_ok bw v6 _ w (hs.own.pick (is := [0, 1]) (by decide))) rfl ?_
      refine go (k := ?_)
      refine XL.yield [2, 3, 4] [] rfl rfl rfl rfl rfl (fun a w' hs ho' => hy _ _ x w' hit hx ho' hs.kept fun b hb => hs.wr b (by rw [ids_append]; exact List.mem_append_right _ hb)) fun z hz' => ?_
      rcases z with x' | y
      · refine go (k := ?_)
        exact XE.mid (k + 1, x') [0, 1, 2] ⟨⟨by simp only; omega, hz'⟩, by simp only; omega⟩ ⟨rfl, rfl, rfl, rfl, rfl, rfl, trivial⟩ rfl rfl
      · refine go (k := ?_)
        exact XE.ret0 (Sum.inr y) [0] rfl hz' rfl rfl rfl
  · obtain rfl : k = nd s.length := by omega
    refine go (k := ?_)
    refine XE.end0 (Sum.inl x) [0, 1, 2] rfl ?_ rfl rfl rfl
    show φ (gitems f s).length x
    rw [hil]; exact hx
end Go.X
/- From a walk of this framework to the end that a row asks for. -/
namespace Go.X
open Go Go.RowKit

theorem Kept.keptBut {w w' : World} (k : Kept [] w w') (may : MemPlace → Prop) : w.keptBut w' may :=
  World.keptBut_mono (fun _ f => f.elim) (show w.keptBut w' (fun _ => False) from ⟨k.os, k.output, fun i hi => by
    rw [k.same i hi (by simp)]
    exact (World.keptBut_refl w fun _ => False).2.2 i hi⟩)
theorem Ret.kept {α : Type} {φ : α → Prop} {w w' : World} {v : Value} {e : Ending} (h : Ret w [] (fun _ : α => v) (fun _ => []) φ e w') : e = .returned v ∧ Kept [] w w' := by
  cases e with
  | returned u => obtain ⟨x, _, rfl, _, hk, _⟩ := h; exact ⟨rfl, hk⟩
  | panicked _ => exact h.elim
  | outgrown => exact h.elim
theorem wf_u8 {a : Int} (h : (Lit.int .u8 a).wf = true) : 0 ≤ a ∧ a ≤ 255 := by
  simp only [Lit.wf, decide_eq_true_eq, Bool.and_eq_true] at h
  exact ⟨h.1, h.2⟩
theorem wf_u16 {a : Int} (h : (Lit.int .u16 a).wf = true) : 0 ≤ a ∧ a ≤ 65535 := by
  simp only [Lit.wf, decide_eq_true_eq, Bool.and_eq_true] at h
  exact ⟨h.1, h.2⟩
theorem wf_u32 {a : Int} (h : (Lit.int .u32 a).wf = true) : 0 ≤ a ∧ a ≤ 4294967295 := by
  simp only [Lit.wf, decide_eq_true_eq, Bool.and_eq_true] at h
  exact ⟨h.1, h.2⟩
theorem wf_u64 {a : Int} (h : (Lit.int .u64 a).wf = true) : 0 ≤ a ∧ a ≤ 18446744073709551615 := by
  simp only [Lit.wf, decide_eq_true_eq, Bool.and_eq_true] at h
  exact ⟨h.1, h.2⟩
theorem wf_i8 {a : Int} (h : (Lit.int .i8 a).wf = true) : -128 ≤ a ∧ a ≤ 127 := by
  simp only [Lit.wf, decide_eq_true_eq, Bool.and_eq_true] at h
  exact ⟨h.1, h.2⟩
theorem wf_i16 {a : Int} (h : (Lit.int .i16 a).wf = true) : -32768 ≤ a ∧ a ≤ 32767 := by
  simp only [Lit.wf, decide_eq_true_eq, Bool.and_eq_true] at h
  exact ⟨h.1, h.2⟩
theorem wf_i32 {a : Int} (h : (Lit.int .i32 a).wf = true) : -2147483648 ≤ a ∧ a ≤ 2147483647 := by
  simp only [Lit.wf, decide_eq_true_eq, Bool.and_eq_true] at h
  exact ⟨h.1, h.2⟩
theorem wf_i64 {a : Int} (h : (Lit.int .i64 a).wf = true) : -9223372036854775808 ≤ a ∧ a ≤ 9223372036854775807 := by
  simp only [Lit.wf, decide_eq_true_eq, Bool.and_eq_true] at h
  exact ⟨h.1, h.2⟩
end Go.X
/- Arguments opened: what the cells of a value are, by its type. -/
namespace Go.X
open Go Go.RowKit Go.ChangeShapes Go.WideShapes

theorem Kept.below {w w' : World} (k : Kept [] w w') : Go.RowKit.Below w.heap.size w w' := ⟨k.os, k.tape, k.output, k.size, fun b hb => k.same b hb (by simp)⟩

theorem len1 {l : List Value} (h : l.length = 1) : ∃ a0, l = [a0] := by
  match l, h with
  | [a0], _ => exact ⟨_, rfl⟩
theorem len2 {l : List Value} (h : l.length = 2) : ∃ a0 a1, l = [a0, a1] := by
  match l, h with
  | [a0, a1], _ => exact ⟨_, _, rfl⟩
theorem len3 {l : List Value} (h : l.length = 3) : ∃ a0 a1 a2, l = [a0, a1, a2] := by
  match l, h with
  | [a0, a1, a2], _ => exact ⟨_, _, _, rfl⟩
theorem len4 {l : List Value} (h : l.length = 4) : ∃ a0 a1 a2 a3, l = [a0, a1, a2, a3] := by
  match l, h with
  | [a0, a1, a2, a3], _ => exact ⟨_, _, _, _, rfl⟩
theorem len5 {l : List Value} (h : l.length = 5) : ∃ a0 a1 a2 a3 a4, l = [a0, a1, a2, a3, a4] := by
  match l, h with
  | [a0, a1, a2, a3, a4], _ => exact ⟨_, _, _, _, _, rfl⟩
theorem len6 {l : List Value} (h : l.length = 6) : ∃ a0 a1 a2 a3 a4 a5, l = [a0, a1, a2, a3, a4, a5] := by
  match l, h with
  | [a0, a1, a2, a3, a4, a5], _ => exact ⟨_, _, _, _, _, _, rfl⟩
theorem len7 {l : List Value} (h : l.length = 7) : ∃ a0 a1 a2 a3 a4 a5 a6, l = [a0, a1, a2, a3, a4, a5, a6] := by
  match l, h with
  | [a0, a1, a2, a3, a4, a5, a6], _ => exact ⟨_, _, _, _, _, _, _, rfl⟩
theorem len8 {l : List Value} (h : l.length = 8) : ∃ a0 a1 a2 a3 a4 a5 a6 a7, l = [a0, a1, a2, a3, a4, a5, a6, a7] := by
  match l, h with
  | [a0, a1, a2, a3, a4, a5, a6, a7], _ => exact ⟨_, _, _, _, _, _, _, _, rfl⟩
/-- the kinds of cells -/
inductive K where
  | int (k : IntKind)
  | bool
  | str
  | sl (e : TypeId)
/-- the cells of a type: where each lies, and of what kind it is -/
def flat (P : Program) : Nat → TypeId → Option (List (Nat × K))
  | 0, _ => none
  | d + 1, t =>
    match P.underlying t with
    | some (.int k) => some [(0, .int k)]
    | some .bool => some [(0, .bool)]
    | some .string => some [(0, .str)]
    | some (.slice e) => some [(0, .sl e)]
    | some (.struct fs) => (fs.toList.mapM fun f => (flat P d f.type).map fun l => l.map fun p => (f.offset + p.1, p.2)).map List.flatten
    | some (.array n e) => (flat P d e).map fun l => (List.range n).flatMap fun i => l.map fun p => (i * P.cellsOf e + p.1, p.2)
    | _ => none

section
variable {H : Type} {enc : TypeId × Value → H} {P : Program} {w : World} {base : Nat} {spare : Nat → Bool} {held : Bool}
/-- what stands in a cell of a kind -/
def KOk (enc : TypeId × Value → H) (P : Program) (w : World) (base : Nat) (spare : Nat → Bool) (held : Bool) : K → Value → Prop
  | .int k, v => ∃ n, v = .int k n ∧ (Lit.int k n).wf = true
  | .bool, v => ∃ b, v = .bool b
  | .str, v => ∃ s, v = .string s ∧ s.size ≤ maxLen
  | .sl e, v => v = .slice none 0 0 ∨ ∃ (a : Addr) (len cap : Nat), v = .slice (some a) len cap ∧ len ≤ cap ∧ cap ≤ maxLen ∧ base ≤ a.block ∧ ∀ i, i < len → ∃ cs fuel x, w.cells? base (a.add (i * P.cellsOf e)) (P.cellsOf e) = some cs ∧ DataW.trod enc P w base spare held fuel e cs = some x

theorem sub_get {cs : List Value} {o m j : Nat} {v : Value} (h : ((cs.drop o).take m)[j]? = some v) : cs[o + j]? = some v := by
  rw [List.getElem?_take] at h
  split at h
  · rwa [List.getElem?_drop] at h
  · cases h
theorem mapM_mem {α β : Type} {f : α → Option β} : ∀ {l : List α} {ys : List β}, l.mapM f = some ys → ∀ y ∈ ys, ∃ (i : Nat) (x : α), l[i]? = some x ∧ f x = some y
  | [], ys, h, y, hy => by simp at h; subst h; simp at hy
  | a :: l, ys, h, y, hy => by
    rw [List.mapM_cons] at h
    cases ha : f a with
    | none => rw [ha] at h; cases h
    | some b =>
      rw [ha] at h
      cases hl : l.mapM f with
      | none => rw [hl] at h; cases h
      | some bs =>
        rw [hl] at h
        have : b :: bs = ys := Option.some.inj h
        subst this
        rcases List.mem_cons.1 hy with rfl | hy
        · exact ⟨0, a, rfl, ha⟩
        · obtain ⟨i, x, h1, h2⟩ := mapM_mem hl y hy
          exact ⟨i + 1, x, h1, h2⟩
theorem flat_ok : ∀ (d : Nat) {t : TypeId} {l : List (Nat × K)} {fuel : Nat} {cs : List Value} {x : DataW H × List MemPlace}, flat P d t = some l → DataW.trod enc P w base spare held fuel t cs = some x →
    ∀ p ∈ l, ∃ v, cs[p.1]? = some v ∧ KOk enc P w base spare held p.2 v
  | 0, _, _, _, _, _, h, _, _, _ => by cases h
  | d + 1, t, l, fuel, cs, x, h, ht, p, hp => by
    unfold flat at h
    split at h
    · rename_i k hu
      cases h
      obtain ⟨n, rfl, _, hw⟩ := DataW.trod_int hu ht
      simp at hp; subst hp
      exact ⟨_, rfl, n, rfl, hw⟩
    · rename_i hu
      cases h
      obtain ⟨b, rfl, _⟩ := DataW.trod_bool hu ht
      simp at hp; subst hp
      exact ⟨_, rfl, b, rfl⟩
    · rename_i hu
      cases h
      obtain ⟨s, rfl, _, hs⟩ := DataW.trod_string hu ht
      simp at hp; subst hp
      exact ⟨_, rfl, s, rfl, hs⟩
    · rename_i e hu
      cases h
      simp at hp; subst hp
      rcases Go.Deep.open_slice hu ht with ⟨rfl, _⟩ | ⟨a, len, cap, m, n, D, Pl, rfl, hb, hl, hm, hmm, _, hi⟩
      · exact ⟨_, rfl, .inl rfl⟩
      · refine ⟨_, rfl, .inr ⟨a, len, cap, rfl, hl, hm, hb, fun i hil => ?_⟩⟩
        obtain ⟨cs', h1, h2⟩ := hi i (by rw [hmm]; split <;> omega)
        exact ⟨cs', n, _, h1, h2⟩
    · rename_i fs hu
      obtain ⟨xs, n, _, _, _, _, hf⟩ := DataW.trod_struct hu ht
      cases hm : fs.toList.mapM fun f => (flat P d f.type).map fun l => l.map fun p => (f.offset + p.1, p.2) with
      | none => rw [hm] at h; cases h
      | some ls =>
        rw [hm] at h
        simp only [Option.map_some, Option.some.injEq] at h
        subst h
        obtain ⟨l1, hl1, hp1⟩ := List.mem_flatten.1 hp
        obtain ⟨i, f, hi, hfl⟩ := mapM_mem hm l1 hl1
        cases hfd : flat P d f.type with
        | none => rw [hfd] at hfl; cases hfl
        | some l2 =>
          rw [hfd] at hfl
          simp only [Option.map_some, Option.some.injEq] at hfl
          subst hfl
          obtain ⟨q, hq, rfl⟩ := List.mem_map.1 hp1
          have hi' : fs[i]? = some f := by simpa using hi
          have h1 := hf i f hi'
          cases hx : xs[i]? with
          | none => exfalso; have := (Array.getElem?_eq_some_iff.1 hi').1; have := List.getElem?_eq_none_iff.1 hx; omega
          | some y =>
            rw [hx] at h1
            obtain ⟨v, h3, h4⟩ := flat_ok d hfd h1 q hq
            exact ⟨v, sub_get h3, h4⟩
    · rename_i n e hu
      obtain ⟨xs, m, _, _, _, hlen, hf⟩ := DataW.trod_array hu ht
      cases hfd : flat P d e with
      | none => rw [hfd] at h; cases h
      | some l2 =>
        rw [hfd] at h
        simp only [Option.map_some, Option.some.injEq] at h
        subst h
        obtain ⟨i, hi, hp1⟩ := List.mem_flatMap.1 hp
        obtain ⟨q, hq, rfl⟩ := List.mem_map.1 hp1
        have hi' : i < n := by simpa using hi
        have h1 := hf i hi'
        cases hx : xs[i]? with
        | none => exfalso; have := List.getElem?_eq_none_iff.1 hx; omega
        | some y =>
          rw [hx] at h1
          obtain ⟨v, h3, h4⟩ := flat_ok d hfd h1 q hq
          exact ⟨v, sub_get h3, h4⟩
    · cases h

theorem okWide_array {r : Reach} {b0 : Nat} {t : TypeId} {n : Nat} {e : TypeId} {v : Value} (ht : P.underlying t = some (.array n e)) (h : Value.okWide P w r b0 t v) : ∃ cs, v = .agg cs ∧ cs.size = P.cellsOf t := by
  simp only [Value.okWide, ht] at h
  obtain ⟨cs, h1, h2, _⟩ := h
  exact ⟨cs, h1, h2⟩
theorem flat_agg {t : TypeId} {l : List (Nat × K)} {cs : Array Value} {d : DataW H} {p : List MemPlace} (n : Nat) (hf : flat P n t = some l) (h : DataW.Trod enc P w base spare held t (.agg cs) d p) :
    ∀ q ∈ l, ∃ v, cs[q.1]? = some v ∧ KOk enc P w base spare held q.2 v := by
  obtain ⟨fuel, h⟩ := h
  intro q hq
  obtain ⟨v, h1, h2⟩ := flat_ok n hf h q hq
  exact ⟨v, by simpa [Value.cells] using h1, h2⟩
theorem trodAll_stays (hl : laidOutB P = true) {W W' : World} (hb : Go.RowKit.Below W.heap.size W W') : ∀ {ts : List TypeId} {vs : List Value} {ds : List (DataW H)} {ps : List MemPlace} {sp : Nat → Bool},
    (ts.all fun t => P.readableRec t && Nat.blt t P.types.size) = true → DataW.TrodAll enc P W 0 (fun _ => true) true ts vs ds ps → (∀ x ∈ ps, x.block < W.heap.size) → (∀ x ∈ ps, sp x.block = true) → DataW.TrodAll enc P W' 0 sp true ts vs ds ps
  | [], [], [], _, _, _, h, _, _ => h
  | t :: ts, v :: vs, d :: ds, ps, sp, ht, h, hlt, hsp => by
    obtain ⟨p, q, h1, h2, rfl⟩ := h
    simp only [List.all_cons, Bool.and_eq_true, Nat.blt_eq] at ht
    refine ⟨p, q, ?_, trodAll_stays hl hb ht.2 h2 (fun x hx => hlt x (List.mem_append_right _ hx)) (fun x hx => hsp x (List.mem_append_right _ hx)), rfl⟩
    exact WideElems.Trod_stays hl ht.1.1 ht.1.2 h1 (fun x hx => hb.same (hlt x (List.mem_append_left _ hx))) (fun x hx => hsp x (List.mem_append_left _ hx))
  | [], _ :: _, _, _, _, _, h, _, _ => h.elim
  | [], [], _ :: _, _, _, _, h, _, _ => h.elim
  | _ :: _, [], _, _, _, _, h, _, _ => h.elim
  | _ :: _, _ :: _, [], _, _, _, h, _, _ => h.elim
/-- the end of a row where nothing that was there has changed (what is new may be marked) -/
theorem post_of_same2 {f : Func} {s : ChangeSpec} {apart fresh handsOn again : Bool} {W W' : World} {args : Array Value} {v : Value} {ds gs : List (DataW H)} {before pa pv : List MemPlace}
    (hW : DataW.Whole enc P f.params.toList s.vars apart W args.toList ds gs before)
    (hres : ∀ (b : Nat) (sp : Nat → Bool) (hd : Bool), DataW.TrodAll enc P W' b sp hd f.resultTypes.toList (v.resultList f.resultTypes.size) (s.fn H (ds ++ gs)).results [])
    (hargs : ∀ sp : Nat → Bool, (∀ p ∈ before, sp p.block = true) → DataW.TrodAll enc P W' 0 sp true f.params.toList args.toList (s.fn H (ds ++ gs)).args pa)
    (hvars : ∀ sp : Nat → Bool, (∀ p ∈ before, sp p.block = true) → DataW.TrodVars enc P W' sp s.vars (s.fn H (ds ++ gs)).vars pv)
    (hps : before = pa ++ pv) (hk : W.keptBut W' (· ∈ before)) (hfz : ∀ a, a.block < W.heap.size → W'.frozen? a = W.frozen? a)
    (hok : ∀ (j : Nat) (t : TypeId) (r : Value), f.resultTypes[j]? = some t → (v.resultList f.resultTypes.size)[j]? = some r → Value.okWide P W' .any 0 t r) :
    s.post enc P f apart fresh handsOn again W args v W' := by
  have hlt := fun x hx => hW.lt x hx
  have hold : ∀ p ∈ before, (fun b => decide (b < W.heap.size)) p.block = true := fun p hp => by simpa using hlt p hp
  refine ⟨ds, gs, before, [], pa, pv, hW, hres _ _ _, hargs _ hold, hvars _ hold, World.keptBut_mono (fun p hp => ⟨hp, ?_⟩) hk, fun _ => ?_⟩
  · rw [hps, List.mem_append] at hp
    exact Or.inr hp
  · obtain ⟨_, _, _, _, _, hz, hn⟩ := hW
    refine ⟨hok, _, _, ([] ++ pa) ++ pv, ⟨[] ++ pa, pv, trodAll_append (hargs _ (fun _ _ => rfl)) (hres _ _ _), hvars _ (fun _ _ => rfl), rfl, ?_, ?_⟩, ?_⟩
    · intro b off hp
      have hb : MemPlace.cell b off ∈ before := by rw [hps]; simpa using hp
      rw [hfz _ (hlt _ hb)]
      exact hz b off hb
    · intro ha
      have := hn ha
      rw [hps] at this
      simpa using this
    · intro p hp _
      rw [hps]
      simpa using hp
/-- What a law's row asks, where the walk kept all that was there and the law answers true. -/
theorem row_post {f : Func} {s : ChangeSpec} {apart fresh handsOn again : Bool} {W W' : World} {args : Array Value} {ds : List (DataW H)} {gs : List (DataW H)} {before : List MemPlace} {tb : TypeId}
    (hl : laidOutB P = true) (hts : (f.params.toList.all fun t => P.readableRec t && Nat.blt t P.types.size) = true) (hvars : s.vars = []) (hrt : f.resultTypes = #[tb]) (htb : P.underlying tb = some .bool)
    (hfn : s.fn H (ds ++ gs) = { results := [.lit (.bool true)], args := ds }) (hW : DataW.Whole enc P f.params.toList s.vars apart W args.toList ds gs before) (hk : Kept [] W W') :
    s.post enc P f apart fresh handsOn again W args (.bool true) W' := by
  have hlt := fun x hx => hW.lt x hx
  have hW' := hW
  obtain ⟨p, q, hA, hV, rfl, _, _⟩ := hW
  rw [hvars] at hV
  have hq : q = [] := (trodVars_none hV).2
  subst hq
  refine post_of_same2 (pa := p) (pv := []) hW' (fun _ _ _ => ?_) (fun sp hsp => ?_) (fun sp hsp => ?_) rfl (hk.keptBut _) hk.frz (ok_one hrt rfl (okWide_bool_mk htb _))
  · rw [hrt, hfn]; exact trodAll_cons_mk (shut_bool htb _) trodAll_mk0
  · rw [hfn]
    exact trodAll_stays hl hk.below hts hA (fun x hx => hlt x (List.mem_append_left _ hx)) (fun x hx => hsp x (List.mem_append_left _ hx))
  · rw [hfn, hvars]; exact rfl
end
end Go.X
/- A slice that is an argument: its row. -/
namespace Go.X
open Go Go.RowKit
theorem flat_get {k : Nat} {f : Nat → List Value} : ∀ (n : Nat), (∀ i, i < n → (f i).length = k) → ((List.range n).flatMap f).length = n * k ∧ ∀ i j, i < n → j < k → ((List.range n).flatMap f)[i * k + j]? = (f i)[j]?
  | 0, _ => ⟨by simp, fun i j hi => by omega⟩
  | n + 1, h => by
    obtain ⟨h1, h2⟩ := flat_get (f := f) n (fun i hi => h i (by omega))
    have e : (List.range (n + 1)).flatMap f = (List.range n).flatMap f ++ f n := by rw [List.range_succ, List.flatMap_append]; simp
    rw [e]
    refine ⟨by rw [List.length_append, h1, h n (by omega), Nat.succ_mul], fun i j hi hj => ?_⟩
    by_cases hin : i = n
    · subst hin
      rw [List.getElem?_append_right (by omega), h1, Nat.add_sub_cancel_left]
    · have hlt : i * k + j < n * k := by
        have : (i + 1) * k ≤ n * k := Nat.mul_le_mul_right _ (by omega)
        rw [Nat.succ_mul] at this; omega
      rw [List.getElem?_append_left (by omega)]
      exact h2 i j (by omega) hj
theorem rowAt_of {w : World} {base : Nat} {a : Addr} {len cap k : Nat} (hk : 0 < k) (hc : len ≤ cap) (f : Nat → List Value) (h : ∀ i, i < len → w.cells? base (a.add (i * k)) k = some (f i)) :
    RowAt w (.slice (some a) len cap) k len ((List.range len).flatMap f) := by
  have hf : ∀ i, i < len → (f i).length = k ∧ ∀ j, j < k → w.cell? ((a.add (i * k)).add j) = (f i)[j]? := fun i hi => by
    obtain ⟨_, h2, h3⟩ := World.cells?_some (h i hi)
    exact ⟨h2, h3⟩
  obtain ⟨hl, hg⟩ := flat_get (f := f) (k := k) len (fun i hi => (hf i hi).1)
  refine ⟨some a, cap, rfl, hl.symm, hc, ?_⟩
  by_cases h0 : len = 0
  · exact .inl h0
  · refine .inr ?_
    obtain ⟨b, off, sp⟩ := a
    have h00 := (hf 0 (by omega)).2 0 hk
    have hz : (((⟨b, off, sp⟩ : Addr).add (0 * k)).add 0) = ⟨b, off, sp⟩ := by simp [Addr.add]
    rw [hz, List.getElem?_eq_getElem (by rw [(hf 0 (by omega)).1]; exact hk)] at h00
    have hsp := World.cell?_spot h00
    simp only at hsp
    subst hsp
    unfold World.cell? at h00
    simp only at h00
    split at h00
    · rename_i c t fz hh
      refine ⟨b, off, c.toList, t, fz, rfl, hh, ?_⟩
      have hat : ∀ i j, i < len → j < k → c.toList[off + (i * k + j)]? = (f i)[j]? := fun i j hi hj => by
        have := (hf i hi).2 j hj
        rw [add_none, add_none] at this
        have hh' : w.heap[b]? = some (.cells c.toList.toArray t fz) := by simpa using hh
        rw [cell_of hh'] at this
        rw [← this]; congr 1; omega
      have hle : off + len * k ≤ c.toList.length := by
        have hlast := hat (len - 1) (k - 1) (by omega) (by omega)
        have hin : k - 1 < (f (len - 1)).length := by rw [(hf (len - 1) (by omega)).1]; omega
        rw [List.getElem?_eq_getElem hin] at hlast
        have h1 := (List.getElem?_eq_some_iff.1 hlast).1
        have h2 : (len - 1) * k + k = len * k := by rw [← Nat.succ_mul]; congr 1; omega
        omega
      rw [hl, cut_some hle]
      congr 1
      apply List.ext_getElem?
      intro q
      by_cases hq : q < len * k
      · have hd : q = (q / k) * k + q % k := by rw [Nat.mul_comm]; exact (Nat.div_add_mod q k).symm
        have hi : q / k < len := Nat.div_lt_of_lt_mul (by rw [Nat.mul_comm]; exact hq)
        have hj : q % k < k := Nat.mod_lt _ hk
        rw [List.getElem?_take, if_pos hq, List.getElem?_drop]
        rw [hd, hg _ _ hi hj, hat _ _ hi hj]
      · rw [List.getElem?_eq_none (by rw [List.length_take, List.length_drop]; omega), List.getElem?_eq_none (by omega)]
    · cases h00
theorem flat_slice {H : Type} {enc : TypeId × Value → H} {P : Program} {w : World} {base : Nat} {spare : Nat → Bool} {held : Bool} {r : Reach} {b0 : Nat} {t e : TypeId} {v : Value} {d : DataW H} {p : List MemPlace} (ht : P.underlying t = some (.slice e))
    (hval : Value.okWide P w r b0 t v) (h : DataW.Trod enc P w base spare held t v d p) : KOk enc P w base spare held (.sl e) v := by
  obtain ⟨fuel, h⟩ := h
  have hf : flat P 1 t = some [(0, .sl e)] := by simp [flat, ht]
  have key : ∀ u, v.cells = #[u] → KOk enc P w base spare held (.sl e) u := fun u hu => by
    obtain ⟨u', h1, h2⟩ := flat_ok 1 hf h _ (.head _)
    rw [hu] at h1
    obtain rfl := Option.some.inj h1
    exact h2
  cases v <;> first | exact key _ rfl | (exfalso; simp [Value.okWide, ht, Cell.okWide, Cell.ok] at hval)
theorem pick_fn {α : Type} [Inhabited α] {Q : Nat → α → Prop} {n : Nat} (h : ∀ i, i < n → ∃ x, Q i x) : ∃ g : Nat → α, ∀ i, i < n → Q i (g i) :=
  ⟨fun i => if hi : i < n then Classical.choose (h i hi) else default, fun i hi => by simp only [dif_pos hi]; exact Classical.choose_spec (h i hi)⟩
/-- a slice argument whose elements are of one form -/
theorem rows_of {α : Type} [Inhabited α] {H : Type} {enc : TypeId × Value → H} {P : Program} {w : World} {spare : Nat → Bool} {held : Bool} {v : Value} {e : TypeId} {k : Nat} (f : α → List Value) {Q : α → Prop} (hk0 : 0 < k) (hk : P.cellsOf e = k)
    (hel : ∀ cs fuel x, cs.length = k → DataW.trod enc P w 0 spare held fuel e cs = some x → ∃ a : α, cs = f a ∧ Q a) (h : KOk enc P w 0 spare held (.sl e) v) :
    ∃ l : List α, RowAt w v k l.length (l.flatMap f) ∧ l.length ≤ maxLen ∧ ∀ a ∈ l, Q a := by
  rcases h with rfl | ⟨a, len, cap, rfl, hc, hm, _, hi⟩
  · exact ⟨[], ⟨none, 0, rfl, by simp, Nat.le_refl _, .inl rfl⟩, Nat.zero_le _, fun a ha => by cases ha⟩
  · rw [hk] at hi
    have hact : ∀ i, i < len → ∃ x : α, w.cells? 0 (a.add (i * k)) k = some (f x) ∧ Q x := by
      intro i hil
      obtain ⟨cs, fuel, y, h1, h2⟩ := hi i hil
      obtain ⟨_, hl, _⟩ := World.cells?_some h1
      obtain ⟨x, rfl, hq⟩ := hel cs fuel y hl h2
      exact ⟨x, h1, hq⟩
    obtain ⟨g, hg⟩ := pick_fn hact
    refine ⟨(List.range len).map g, ?_, by simpa using Nat.le_trans hc hm, fun x hx => ?_⟩
    · rw [List.length_map, List.length_range, List.flatMap_map]
      exact rowAt_of hk0 hc _ fun i hil => (hg i hil).1
    · obtain ⟨i, hi', rfl⟩ := List.mem_map.1 hx
      exact (hg i (List.mem_range.1 hi')).2
/-- a slice of ints -/
theorem ints_of {H : Type} {enc : TypeId × Value → H} {P : Program} {w : World} {spare : Nat → Bool} {held : Bool} {v : Value} {e : TypeId} {ik : IntKind} (he : P.underlying e = some (.int ik)) (hk : P.cellsOf e = 1) (h : KOk enc P w 0 spare held (.sl e) v) :
    ∃ l : List Int, RowAt w v 1 l.length (l.map fun n => Value.int ik n) ∧ l.length ≤ maxLen ∧ ∀ a ∈ l, (Lit.int ik a).wf = true := by
  obtain ⟨l, h1, h2, h3⟩ := rows_of (fun n : Int => [Value.int ik n]) (Q := fun a => (Lit.int ik a).wf = true) (by decide) hk (fun cs fuel x hl h => by
    obtain ⟨c0, rfl⟩ := len1 hl
    obtain ⟨n, e, _, hw⟩ := DataW.trod_int he h
    exact ⟨n, e, hw⟩) h
  refine ⟨l, ?_, h2, h3⟩
  have : l.flatMap (fun n : Int => [Value.int ik n]) = l.map fun n => Value.int ik n := by
    clear h1 h2 h3
    induction l with
    | nil => rfl
    | cons x l ih => simp only [List.flatMap_cons, List.map_cons, ih]; rfl
  rw [this] at h1
  exact h1
end Go.X
