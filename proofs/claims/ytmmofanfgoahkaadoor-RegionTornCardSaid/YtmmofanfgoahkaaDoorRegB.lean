/- Package region: the blocks of a group. -/
import Derived.Test.YtmmofanfgoahkaaDoorRegA
namespace Go.X
open Go Go.Proofs
def gend (n k : Nat) : Nat := if k + 1 = nd n then n else (k + 1) * 58
def gpc (s : List UInt8) (k : Nat) : List UInt8 := (s.take (gend s.length k)).drop (k * 58)
def gfl (n k : Nat) : Nat := if k + 1 = nd n then 1 else 0
/-- a log block -/
def rblk (i fl : Nat) (p : List UInt8) : List UInt8 := [] ++ be i 2 ++ be fl 1 ++ be p.length 1 ++ p ++ zbytes (58 - p.length) ++ be i 2
def gblk (f : Nat) (s : List UInt8) (k : Nat) : List UInt8 := rblk (f + k) (gfl s.length k) (gpc s k)
def gitems (f : Nat) (s : List UInt8) : List (List Value) := (List.range (nd s.length)).map fun k => [iv ((f + k : Nat) : Int), str (gblk f s k)]
theorem nd_pos (n : Nat) : 0 < nd n := by unfold nd; split <;> omega
theorem nd_le (n : Nat) : nd n ≤ n + 1 := by unfold nd; split <;> omega
theorem nd_spec (n : Nat) : n ≤ nd n * 58 ∧ (nd n - 1) * 58 ≤ n := by unfold nd; split <;> omega
theorem gend_bd {n k : Nat} (h : k < nd n) : k * 58 ≤ gend n k ∧ gend n k ≤ n ∧ gend n k ≤ (k + 1) * 58 ∧ (k + 1 ≠ nd n → gend n k = (k + 1) * 58) := by
  have h0 := nd_spec n
  unfold gend
  by_cases e : k + 1 = nd n
  · rw [if_pos e]; exact ⟨by omega, Nat.le_refl _, by omega, fun h => absurd e h⟩
  · rw [if_neg e]; exact ⟨by omega, by omega, Nat.le_refl _, fun _ => rfl⟩
theorem gpc_len {s : List UInt8} {k : Nat} (h : k < nd s.length) : (gpc s k).length ≤ 58 := by
  obtain ⟨h1, h2, h3, _⟩ := gend_bd h
  unfold gpc
  rw [List.length_drop, List.length_take]; omega
theorem gblocks_ok (f : Int) (s : List UInt8) (w : World) : Fx Tryd.prog 37 [iv f, str s] w (Ret w [] (fun x : Nat × Nat => .func (.func 60) #[] #[ptr x.2, ptr x.1]) (fun x => [.blk x.1 [iv f] 3, .blk x.2 [str s] 9]) (fun _ => True)) := by
  refine Fx.of (L0 := []) Tryd.func37 rfl (by kernel_rfl) Tryd.ntmps37 rfl (Owns.nil w) ?_
  refine go (k := ?_)
  refine XL.box (zs := [iv f]) rfl rfl rfl fun bf => ?_
  refine go (k := ?_)
  refine XL.box (zs := [str s]) rfl rfl rfl fun bs => ?_
  refine go (k := ?_)
  exact XE.ret1 (bf, bs) [1, 0] rfl rfl trivial rfl rfl rfl
set_option maxHeartbeats 1000000 in
theorem blocks_seq (bf bs f : Nat) (s : List UInt8) (hs : s.length ≤ 900000) (hf : f + nd s.length ≤ 65536) :
    Seq Tryd.prog 60 [] [ptr bs, ptr bf] [.blk bf [iv f] 3, .blk bs [str s] 9] (gitems f s) := by
  intro α β l M φ Z ψ w x0 hx0 ho hy
  refine Fx.of Tryd.func60 rfl (by kernel_rfl) Tryd.ntmps60 rfl ho ?_
  refine go (k := ?_)
  refine XL.q (.call rfl rfl fun _ w _ => needs_ok s.length w (by omega)) rfl ?_
  refine go (k := ?_)
  have hil : (gitems f s).length = nd s.length := by unfold gitems; rw [List.length_map, List.length_range]
  refine XC.loop (α := Nat × α) (fun x => [(0, yv l), (1, ptr bs), (2, ptr bf), (4, iv (nd s.length)), (11, iv (nd s.length)), (12, iv x.1)]) (fun x => [.blk bf [iv f] 3, .blk bs [str s] 9, M x.2])
    (fun x => x.1 ≤ nd s.length ∧ φ x.1 x.2) (fun x => nd s.length - x.1) (0, x0) [0, 1, 2] ⟨Nat.zero_le _, hx0⟩ ⟨rfl, rfl, rfl, rfl, rfl, rfl, trivial⟩ rfl rfl ?_
  rintro ⟨k, x⟩ ⟨hk, hx⟩
  simp only at hk hx ⊢
  by_cases hlt : k < nd s.length
  · obtain ⟨g1, g2, g3, g4⟩ := gend_bd hlt
    have hit : (gitems f s)[k]? = some [iv ((f + k : Nat) : Int), str (gblk f s k)] := by
      unfold gitems; rw [List.getElem?_map, List.getElem?_range hlt]; rfl
    have hlen := nd_le s.length
    have hpl := gpc_len hlt
    refine go (k := ?_)
    have h0 := nd_spec s.length
    rw [show (if (s.length : Int) < ((k : Int) + 1) * 58 then (s.length : Int) else ((k : Int) + 1) * 58) = ((gend s.length k : Nat) : Int) by unfold gend; split <;> split <;> omega]
    rw [show (k : Int) * 58 = ((k * 58 : Nat) : Int) by omega]
    refine go (k := ?_)
    rw [show (s.take (gend s.length k)).drop (k * 58) = gpc s k from rfl]
    refine XL.alloc rfl rfl rfl fun bw => ?_
    refine XL.addNil 5 1 ?_
    have hfk : (f : Int) + (k : Int) < 65536 := by omega
    refine go (k := ?_)
    rw [show (f : Int) + (k : Int) = ((f + k : Nat) : Int) by omega]
    refine XL.call [1, 0] [2, 3, 4] rfl rfl rfl rfl rfl (fun _ w _ ho => wu16_ok bw (.slice none 0 0) [] (f + k) w (by omega) (by simp) ho) fun v1 _ => ?_
    refine XL.nm (M := wrG bw v1 ([] ++ be (f + k) 2) ++ [.blk bf [iv f] 3, .blk bs [str s] 9, M x]) ?_ rfl
    refine go (k := ?_)
    by_cases hl : k + 1 = nd s.length
    · have hl' : (k : Int) = (nd s.length : Int) - 1 := by omega
      refine go (k := ?_)
      refine XL.call [0, 1] [2, 3, 4] rfl rfl rfl rfl rfl (fun _ w _ ho => wu8_ok bw v1 ([] ++ be (f + k) 2) 1 w (by decide) (by simp [be_len]) ho) fun v2 _ => ?_
      refine XL.nm (M := wrG bw v2 ([] ++ be (f + k) 2 ++ be 1 1) ++ [.blk bf [iv f] 3, .blk bs [str s] 9, M x]) ?_ rfl
      refine go (k := ?_)
      refine XL.call [0, 1] [2, 3, 4] rfl rfl rfl rfl rfl (fun _ w _ ho => wu8_ok bw v2 ([] ++ be (f + k) 2 ++ be 1 1) (gpc s k).length w (by omega) (by simp [be_len]) ho) fun v3 _ => ?_
      refine XL.nm (M := wrG bw v3 ([] ++ be (f + k) 2 ++ be 1 1 ++ be (gpc s k).length 1) ++ [.blk bf [iv f] 3, .blk bs [str s] 9, M x]) ?_ rfl
      refine go (k := ?_)
      refine XL.call [0, 1] [2, 3, 4] rfl rfl rfl rfl rfl (fun _ w _ ho => wraw_ok bw v3 ([] ++ be (f + k) 2 ++ be 1 1 ++ be (gpc s k).length 1) (gpc s k) w (by simp [be_len]; omega) ho) fun v4 _ => ?_
      refine XL.nm (M := wrG bw v4 ([] ++ be (f + k) 2 ++ be 1 1 ++ be (gpc s k).length 1 ++ gpc s k) ++ [.blk bf [iv f] 3, .blk bs [str s] 9, M x]) ?_ rfl
      refine go (k := ?_)
      rw [show (58 : Int) - ((gpc s k).length : Int) = ((58 - (gpc s k).length : Nat) : Int) by omega]
      refine XL.q (.call rfl rfl fun _ w _ => noughts_ok (58 - (gpc s k).length) w (by omega)) rfl ?_
      refine go (k := ?_)
      refine XL.call [0, 1] [2, 3, 4] rfl rfl rfl rfl rfl (fun _ w _ ho => wraw_ok bw v4 ([] ++ be (f + k) 2 ++ be 1 1 ++ be (gpc s k).length 1 ++ gpc s k) (zbytes (58 - (gpc s k).length)) w (by simp [be_len, zbytes_len]; omega) ho) fun v5 _ => ?_
      refine XL.nm (M := wrG bw v5 ([] ++ be (f + k) 2 ++ be 1 1 ++ be (gpc s k).length 1 ++ gpc s k ++ zbytes (58 - (gpc s k).length)) ++ [.blk bf [iv f] 3, .blk bs [str s] 9, M x]) ?_ rfl
      refine go (k := ?_)
      rw [show (f : Int) + (k : Int) = ((f + k : Nat) : Int) by omega]
      refine XL.call [0, 1] [2, 3, 4] rfl rfl rfl rfl rfl (fun _ w _ ho => wu16_ok bw v5 ([] ++ be (f + k) 2 ++ be 1 1 ++ be (gpc s k).length 1 ++ gpc s k ++ zbytes (58 - (gpc s k).length)) (f + k) w (by omega) (by simp [be_len, zbytes_len]; omega) ho) fun v6 _ => ?_
      refine XL.nm (M := wrG bw v6 ([] ++ be (f + k) 2 ++ be 1 1 ++ be (gpc s k).length 1 ++ gpc s k ++ zbytes (58 - (gpc s k).length) ++ be (f + k) 2) ++ [.blk bf [iv f] 3, .blk bs [str s] 9, M x]) ?_ rfl
      refine go (k := ?_)
      have hgb : gblk f s k = [] ++ be (f + k) 2 ++ be 1 1 ++ be (gpc s k).length 1 ++ gpc s k ++ zbytes (58 - (gpc s k).length) ++ be (f + k) 2 := by unfold gblk rblk gfl; rw [if_pos hl]
      rw [show (f : Int) + (k : Int) = ((f + k : Nat) : Int) by omega]
      refine XD.q (.call (v := str (gblk f s k)) rfl rfl fun _ w hs => by rw [hgb]; exact wbytes_ok bw v6 _ w (hs.own.pick (is := [0, 1]) (by decide))) rfl ?_
      refine go (k := ?_)
      refine XL.yield [2, 3, 4] [] rfl rfl rfl rfl rfl (fun a w' hs ho' => hy _ _ x w' hit hx ho' hs.kept fun b hb => hs.wr b (by rw [ids_append]; exact List.mem_append_right _ hb)) fun z hz' => ?_
      rcases z with x' | y
      · refine go (k := ?_)
        exact XE.mid (k + 1, x') [0, 1, 2] ⟨⟨by simp only; omega, hz'⟩, by simp only; omega⟩ ⟨rfl, rfl, rfl, rfl, rfl, rfl, trivial⟩ rfl rfl
      · refine go (k := ?_)
        exact XE.ret0 (Sum.inr y) [0] rfl hz' rfl rfl rfl
    · have hl' : ¬ (k : Int) = (nd s.length : Int) - 1 := by omega
      refine go (k := ?_)
      refine XL.call [0, 1] [2, 3, 4] rfl rfl rfl rfl rfl (fun _ w _ ho => wu8_ok bw v1 ([] ++ be (f + k) 2) 0 w (by decide) (by simp [be_len]) ho) fun v2 _ => ?_
      refine XL.nm (M := wrG bw v2 ([] ++ be (f + k) 2 ++ be 0 1) ++ [.blk bf [iv f] 3, .blk bs [str s] 9, M x]) ?_ rfl
      refine go (k := ?_)
      refine XL.call [0, 1] [2, 3, 4] rfl rfl rfl rfl rfl (fun _ w _ ho => wu8_ok bw v2 ([] ++ be (f + k) 2 ++ be 0 1) (gpc s k).length w (by omega) (by simp [be_len]) ho) fun v3 _ => ?_
      refine XL.nm (M := wrG bw v3 ([] ++ be (f + k) 2 ++ be 0 1 ++ be (gpc s k).length 1) ++ [.blk bf [iv f] 3, .blk bs [str s] 9, M x]) ?_ rfl
      refine go (k := ?_)
      refine XL.call [0, 1] [2, 3, 4] rfl rfl rfl rfl rfl (fun _ w _ ho => wraw_ok bw v3 ([] ++ be (f + k) 2 ++ be 0 1 ++ be (gpc s k).length 1) (gpc s k) w (by simp [be_len]; omega) ho) fun v4 _ => ?_
      refine XL.nm (M := wrG bw v4 ([] ++ be (f + k) 2 ++ be 0 1 ++ be (gpc s k).length 1 ++ gpc s k) ++ [.blk bf [iv f] 3, .blk bs [str s] 9, M x]) ?_ rfl
      refine go (k := ?_)
      rw [show (58 : Int) - ((gpc s k).length : Int) = ((58 - (gpc s k).length : Nat) : Int) by omega]
      refine XL.q (.call rfl rfl fun _ w _ => noughts_ok (58 - (gpc s k).length) w (by omega)) rfl ?_
      refine go (k := ?_)
      refine XL.call [0, 1] [2, 3, 4] rfl rfl rfl rfl rfl (fun _ w _ ho => wraw_ok bw v4 ([] ++ be (f + k) 2 ++ be 0 1 ++ be (gpc s k).length 1 ++ gpc s k) (zbytes (58 - (gpc s k).length)) w (by simp [be_len, zbytes_len]; omega) ho) fun v5 _ => ?_
      refine XL.nm (M := wrG bw v5 ([] ++ be (f + k) 2 ++ be 0 1 ++ be (gpc s k).length 1 ++ gpc s k ++ zbytes (58 - (gpc s k).length)) ++ [.blk bf [iv f] 3, .blk bs [str s] 9, M x]) ?_ rfl
      refine go (k := ?_)
      rw [show (f : Int) + (k : Int) = ((f + k : Nat) : Int) by omega]
      refine XL.call [0, 1] [2, 3, 4] rfl rfl rfl rfl rfl (fun _ w _ ho => wu16_ok bw v5 ([] ++ be (f + k) 2 ++ be 0 1 ++ be (gpc s k).length 1 ++ gpc s k ++ zbytes (58 - (gpc s k).length)) (f + k) w (by omega) (by simp [be_len, zbytes_len]; omega) ho) fun v6 _ => ?_
      refine XL.nm (M := wrG bw v6 ([] ++ be (f + k) 2 ++ be 0 1 ++ be (gpc s k).length 1 ++ gpc s k ++ zbytes (58 - (gpc s k).length) ++ be (f + k) 2) ++ [.blk bf [iv f] 3, .blk bs [str s] 9, M x]) ?_ rfl
      refine go (k := ?_)
      have hgb : gblk f s k = [] ++ be (f + k) 2 ++ be 0 1 ++ be (gpc s k).length 1 ++ gpc s k ++ zbytes (58 - (gpc s k).length) ++ be (f + k) 2 := by unfold gblk rblk gfl; rw [if_neg hl]
      rw [show (f : Int) + (k : Int) = ((f + k : Nat) : Int) by omega]
      refine XD.q (.call (v := str (gblk f s k)) rfl rfl fun _ w hs => by rw [hgb]; exact wbytes_ok bw v6 _ w (hs.own.pick (is := [0, 1]) (by decide))) rfl ?_
      refine go (k := ?_)
      refine XL.yield [2, 3, 4] [] rfl rfl rfl rfl rfl (fun a w' hs ho' => hy _ _ x w' hit hx ho' hs.kept fun b hb => hs.wr b (by rw [ids_append]; exact List.mem_append_right _ hb)) fun z hz' => ?_
      rcases z with x' | y
      · refine go (k := ?_)
        exact XE.mid (k + 1, x') [0, 1, 2] ⟨⟨by simp only; omega, hz'⟩, by simp only; omega⟩ ⟨rfl, rfl, rfl, rfl, rfl, rfl, trivial⟩ rfl rfl
      · refine go (k := ?_)
        exact XE.ret0 (Sum.inr y) [0] rfl hz' rfl rfl rfl
  · obtain rfl : k = nd s.length := by omega
    refine go (k := ?_)
    refine XE.end0 (Sum.inl x) [0, 1, 2] rfl ?_ rfl rfl rfl
    show φ (gitems f s).length x
    rw [hil]; exact hx
end Go.X
