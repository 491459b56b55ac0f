/- Package codec: what a Writer does. -/
import Derived.Test.YtmmofanfgoahkaaDoorDevCc
import Derived.Test.YtmmofanfgoahkaaDoorBytes
namespace Go.X
open Go Go.Proofs
abbrev wrB (b : Nat) (v : Value) : Ent := .blk b [v] 91
abbrev wrG (b : Nat) (v : Value) (l : List UInt8) : Heap := [wrB b v, .sl v 5 1 (bcells l)]
abbrev wrE (b : Nat) (v : Value) (l : List UInt8) : Ent := grp (wrG b v l)
theorem wwrite_ok (b : Nat) (v u : Value) (l m : List UInt8) (w : World) (hr : ∀ w', Kept (ids (wrG b v l)) w w' → RowAt w' u 1 m.length (bcells m)) (hl : l.length + m.length ≤ 1000000) (ho : Owns w (wrG b v l)) :
    Fx Tryd.prog 64 [ptr b, u] w (Ret w (wrG b v l) (fun _ : Value => .tuple #[]) (fun v' => wrG b v' (l ++ m)) (fun _ => True)) := by
  obtain ⟨ao, c, rfl, _, _⟩ := hr w (.refl _ _)
  refine Fx.of Tryd.func64 rfl (by kernel_rfl) Tryd.ntmps64 rfl ho ?_
  refine XC.slv (.tail _ (.head _)) fun a1 q1 m1 hv hq _ => ?_
  subst hv
  obtain rfl : q1 = l.length := by simpa using hq
  refine go (k := ?_)
  refine XL.app (m := m.length) (news := bcells m) (L' := fun v' => [wrB b (.slice a1 l.length m1), .sl v' 5 1 (bcells l ++ bcells m)]) rfl rfl rfl rfl rfl rfl (by decide) (.tail _ (.head _)) (fun w' _ hk => hr w' hk) (bcells_one m) (by simp; omega) (by simp; omega) (fun _ => .there .here) rfl fun v' => ?_
  refine XL.slv (.tail _ (.head _)) fun a2 q2 m2 hv hq2 _ => ?_
  subst hv
  refine go (k := ?_)
  rw [← List.map_append]
  exact XE.end0 (Value.slice a2 q2 m2) [0, 1] rfl trivial rfl rfl rfl
theorem wraw_ok (b : Nat) (v : Value) (l m : List UInt8) (w : World) (hl : l.length + m.length ≤ 1000000) (ho : Owns w (wrG b v l)) :
    Fx Tryd.prog 41 [ptr b, str m] w (Ret w (wrG b v l) (fun _ : Value => .tuple #[]) (fun v' => wrG b v' (l ++ m)) (fun _ => True)) := by
  refine Fx.of Tryd.func41 rfl (by kernel_rfl) Tryd.ntmps41 rfl ho ?_
  refine go (k := ?_)
  refine XL.make (.strBytes rfl rfl rfl rfl) rfl fun _ _ hv => ?_
  obtain ⟨bs, c, pad, f, rfl, hc, rfl⟩ := hv
  refine go (k := ?_)
  refine XL.call [1, 2] [0] rfl rfl rfl rfl rfl (fun _ w1 hs ho => wwrite_ok b v _ l m w1 (fun w' hk => by
    have hb : w1.heap[bs]? = some _ := hs.own.ok _ (.head _)
    have hb' : w'.heap[bs]? = _ := (hk.same bs (Array.getElem?_eq_some_iff.1 hb).1 (fun h => (Owns.apart (L := [rowB bs m pad _ f]) hs.own) bs (by simp [X.ids, Ent.ids]) h)).trans hb
    exact ⟨_, _, rfl, by simp, hc, .inr ⟨bs, 0, _, _, _, rfl, hb', by rw [cut_some (by simp)]; simp⟩⟩) hl ho) fun v' _ => ?_
  refine go (k := ?_)
  exact XE.end0 v' [0, 1] rfl trivial rfl rfl rfl
theorem wbytes_ok (b : Nat) (v : Value) (l : List UInt8) (w : World) (ho : Owns w (wrG b v l)) : Fx Tryd.prog 43 [ptr b] w (Pure w (str l)) := by
  have hown : ∀ w', Kept [] w w' → Owns w' (wrG b v l) := fun w' k => ho.of_kept k (fun _ _ h => by cases h)
  have hb : w.heap[b]? = some (.cells [v].toArray _ (0, 0)) := ho.ok _ (.head _)
  have hB : b ∉ ids ([] : Heap) := by simp [X.ids]
  have h0 : [v][0 + 0]? = some v := rfl
  have hrow : ∀ w', Kept [] w w' → RowAt w' v 1 l.length (bcells l) := fun w' k => ((hown w' k).ok _ (.tail _ (.head _)) : SlOk w' v _ 1 _).rowAt (by decide) (by simp)
  refine Fx.of (L0 := []) Tryd.func43 rfl (by kernel_rfl) Tryd.ntmps43 rfl (Owns.nil w) ?_
  refine go (k := ?_)
  refine XL.q (.bytesStr rfl rfl rfl rfl (fun w' _ hk => hrow w' hk)) rfl ?_
  refine go (k := ?_)
  exact XE.ret1 () [] rfl rfl trivial rfl rfl rfl
/-- the last k bytes of a number, the greatest first -/
def be (n : Nat) : Nat → List UInt8
  | 0 => []
  | k + 1 => UInt8.ofNat (n / 256 ^ k % 256) :: be n k
theorem be_len (n : Nat) : ∀ k, (be n k).length = k
  | 0 => rfl
  | k + 1 => by rw [be, List.length_cons, be_len n k]
theorem be_byte (n j : Nat) (hj : j ≤ 3) : IntKind.u8.wrap (shrOp .u32 (n : Int) (8 * (((j + 1 : Nat) : Int) - 1))) = ((UInt8.ofNat (n / 256 ^ j % 256)).toNat : Int) := by
  have hw : ∀ x : Int, IntKind.u8.wrap x = x % 256 := fun x => rfl
  rw [hw, UInt8.toNat_ofNat']
  unfold shrOp
  rcases (by omega : j = 0 ∨ j = 1 ∨ j = 2 ∨ j = 3) with rfl | rfl | rfl | rfl
  · show ((n : Int).fdiv 1) % 256 = _
    rw [Int.fdiv_eq_ediv_of_nonneg _ (by decide)]; omega
  · show ((n : Int).fdiv 256) % 256 = _
    rw [Int.fdiv_eq_ediv_of_nonneg _ (by decide)]; omega
  · show ((n : Int).fdiv 65536) % 256 = _
    rw [Int.fdiv_eq_ediv_of_nonneg _ (by decide)]; omega
  · show ((n : Int).fdiv 16777216) % 256 = _
    rw [Int.fdiv_eq_ediv_of_nonneg _ (by decide)]; omega
theorem put8_ok (b : Nat) (v : Value) (l : List UInt8) (n k : Nat) (w : World) (hn : n < 256) (hk : k ≤ 4) (hl : l.length + k ≤ 1000000) (ho : Owns w (wrG b v l)) :
    Fx Tryd.prog 79 [ptr b, .int .u8 n, iv k] w (Ret w (wrG b v l) (fun _ : Value => .tuple #[]) (fun v' => wrG b v' (l ++ be n k)) (fun _ => True)) := by
  refine Fx.of Tryd.func79 rfl (by kernel_rfl) Tryd.ntmps79 rfl ho ?_
  refine go (k := ?_)
  refine XC.loop (α := Nat × Value × List UInt8) (fun x => [(0, ptr b), (1, .int .u8 n), (2, iv x.1)]) (fun x => wrG b x.2.1 x.2.2) (fun x => x.1 ≤ k ∧ x.2.2 ++ be n x.1 = l ++ be n k) (fun x => x.1) (k, v, l) [0, 1] ⟨Nat.le_refl _, rfl⟩ ⟨rfl, rfl, rfl, trivial⟩ rfl rfl ?_
  rintro ⟨j, v', l'⟩ ⟨hj, he⟩
  simp only at hj he ⊢
  cases j with
  | zero =>
    rw [be, List.append_nil] at he
    subst he
    refine go (k := ?_)
    exact XE.end0 v' [0, 1] rfl trivial rfl rfl rfl
  | succ j =>
    have hlen : l'.length + (j + 1) = l.length + k := by have := congrArg List.length he; simpa [be_len] using this
    refine go (k := ?_)
    rw [be_byte n j (by omega)]
    refine XL.make (.bslice rfl rfl rfl rfl rfl rfl) rfl fun _ _ hb => ?_
    obtain ⟨bs, rfl, rfl⟩ := hb
    refine XL.call [1, 2] [0] rfl rfl rfl rfl rfl (fun _ w1 hs ho => wwrite_ok b v' _ l' [UInt8.ofNat (n / 256 ^ j % 256)] w1 (fun w' hk => by
      have hb : w1.heap[bs]? = some _ := hs.own.ok _ (.head _)
      have hb' : w'.heap[bs]? = _ := (hk.same bs (Array.getElem?_eq_some_iff.1 hb).1 (fun h => (Owns.apart (L := [.blk bs _ _]) hs.own) bs (by simp [X.ids, Ent.ids]) h)).trans hb
      exact ⟨_, _, rfl, rfl, Nat.le_refl _, .inr ⟨bs, 0, _, _, _, rfl, hb', rfl⟩⟩) (by simp; omega) ho) fun v2 _ => ?_
    rw [show (((j + 1 : Nat) : Int) - 1) = (j : Int) by omega]
    refine go (k := ?_)
    exact XE.mid (j, v2, l' ++ [UInt8.ofNat (n / 256 ^ j % 256)]) [0, 1] ⟨⟨by simp only; omega, by simp only; rw [List.append_assoc]; exact he⟩, by simp⟩ ⟨rfl, rfl, rfl, trivial⟩ rfl rfl
theorem put16_ok (b : Nat) (v : Value) (l : List UInt8) (n k : Nat) (w : World) (hn : n < 65536) (hk : k ≤ 4) (hl : l.length + k ≤ 1000000) (ho : Owns w (wrG b v l)) :
    Fx Tryd.prog 78 [ptr b, .int .u16 n, iv k] w (Ret w (wrG b v l) (fun _ : Value => .tuple #[]) (fun v' => wrG b v' (l ++ be n k)) (fun _ => True)) := by
  refine Fx.of Tryd.func78 rfl (by kernel_rfl) Tryd.ntmps78 rfl ho ?_
  refine go (k := ?_)
  refine XC.loop (α := Nat × Value × List UInt8) (fun x => [(0, ptr b), (1, .int .u16 n), (2, iv x.1)]) (fun x => wrG b x.2.1 x.2.2) (fun x => x.1 ≤ k ∧ x.2.2 ++ be n x.1 = l ++ be n k) (fun x => x.1) (k, v, l) [0, 1] ⟨Nat.le_refl _, rfl⟩ ⟨rfl, rfl, rfl, trivial⟩ rfl rfl ?_
  rintro ⟨j, v', l'⟩ ⟨hj, he⟩
  simp only at hj he ⊢
  cases j with
  | zero =>
    rw [be, List.append_nil] at he
    subst he
    refine go (k := ?_)
    exact XE.end0 v' [0, 1] rfl trivial rfl rfl rfl
  | succ j =>
    have hlen : l'.length + (j + 1) = l.length + k := by have := congrArg List.length he; simpa [be_len] using this
    refine go (k := ?_)
    rw [be_byte n j (by omega)]
    refine XL.make (.bslice rfl rfl rfl rfl rfl rfl) rfl fun _ _ hb => ?_
    obtain ⟨bs, rfl, rfl⟩ := hb
    refine XL.call [1, 2] [0] rfl rfl rfl rfl rfl (fun _ w1 hs ho => wwrite_ok b v' _ l' [UInt8.ofNat (n / 256 ^ j % 256)] w1 (fun w' hk => by
      have hb : w1.heap[bs]? = some _ := hs.own.ok _ (.head _)
      have hb' : w'.heap[bs]? = _ := (hk.same bs (Array.getElem?_eq_some_iff.1 hb).1 (fun h => (Owns.apart (L := [.blk bs _ _]) hs.own) bs (by simp [X.ids, Ent.ids]) h)).trans hb
      exact ⟨_, _, rfl, rfl, Nat.le_refl _, .inr ⟨bs, 0, _, _, _, rfl, hb', rfl⟩⟩) (by simp; omega) ho) fun v2 _ => ?_
    rw [show (((j + 1 : Nat) : Int) - 1) = (j : Int) by omega]
    refine go (k := ?_)
    exact XE.mid (j, v2, l' ++ [UInt8.ofNat (n / 256 ^ j % 256)]) [0, 1] ⟨⟨by simp only; omega, by simp only; rw [List.append_assoc]; exact he⟩, by simp⟩ ⟨rfl, rfl, rfl, trivial⟩ rfl rfl
theorem put32_ok (b : Nat) (v : Value) (l : List UInt8) (n k : Nat) (w : World) (_hn : n < 4294967296) (hk : k ≤ 4) (hl : l.length + k ≤ 1000000) (ho : Owns w (wrG b v l)) :
    Fx Tryd.prog 63 [ptr b, .int .u32 n, iv k] w (Ret w (wrG b v l) (fun _ : Value => .tuple #[]) (fun v' => wrG b v' (l ++ be n k)) (fun _ => True)) := by
  refine Fx.of Tryd.func63 rfl (by kernel_rfl) Tryd.ntmps63 rfl ho ?_
  refine go (k := ?_)
  refine XC.loop (α := Nat × Value × List UInt8) (fun x => [(0, ptr b), (1, .int .u32 n), (2, iv x.1)]) (fun x => wrG b x.2.1 x.2.2) (fun x => x.1 ≤ k ∧ x.2.2 ++ be n x.1 = l ++ be n k) (fun x => x.1) (k, v, l) [0, 1] ⟨Nat.le_refl _, rfl⟩ ⟨rfl, rfl, rfl, trivial⟩ rfl rfl ?_
  rintro ⟨j, v', l'⟩ ⟨hj, he⟩
  simp only at hj he ⊢
  cases j with
  | zero =>
    rw [be, List.append_nil] at he
    subst he
    refine go (k := ?_)
    exact XE.end0 v' [0, 1] rfl trivial rfl rfl rfl
  | succ j =>
    have hlen : l'.length + (j + 1) = l.length + k := by have := congrArg List.length he; simpa [be_len] using this
    refine go (k := ?_)
    rw [be_byte n j (by omega)]
    refine XL.make (.bslice rfl rfl rfl rfl rfl rfl) rfl fun _ _ hb => ?_
    obtain ⟨bs, rfl, rfl⟩ := hb
    refine XL.call [1, 2] [0] rfl rfl rfl rfl rfl (fun _ w1 hs ho => wwrite_ok b v' _ l' [UInt8.ofNat (n / 256 ^ j % 256)] w1 (fun w' hk => by
      have hb : w1.heap[bs]? = some _ := hs.own.ok _ (.head _)
      have hb' : w'.heap[bs]? = _ := (hk.same bs (Array.getElem?_eq_some_iff.1 hb).1 (fun h => (Owns.apart (L := [.blk bs _ _]) hs.own) bs (by simp [X.ids, Ent.ids]) h)).trans hb
      exact ⟨_, _, rfl, rfl, Nat.le_refl _, .inr ⟨bs, 0, _, _, _, rfl, hb', rfl⟩⟩) (by simp; omega) ho) fun v2 _ => ?_
    rw [show (((j + 1 : Nat) : Int) - 1) = (j : Int) by omega]
    refine go (k := ?_)
    exact XE.mid (j, v2, l' ++ [UInt8.ofNat (n / 256 ^ j % 256)]) [0, 1] ⟨⟨by simp only; omega, by simp only; rw [List.append_assoc]; exact he⟩, by simp⟩ ⟨rfl, rfl, rfl, trivial⟩ rfl rfl
theorem wu8_ok (b : Nat) (v : Value) (l : List UInt8) (n : Nat) (w : World) (hn : n < 256) (hl : l.length ≤ 900000) (ho : Owns w (wrG b v l)) :
    Fx Tryd.prog 62 [ptr b, .int .u8 n] w (Ret w (wrG b v l) (fun _ : Value => .tuple #[]) (fun v' => wrG b v' (l ++ be n 1)) (fun _ => True)) := by
  refine Fx.of Tryd.func62 rfl (by kernel_rfl) Tryd.ntmps62 rfl ho ?_
  refine go (k := ?_)
  refine XL.call [0, 1] [] rfl rfl rfl rfl rfl (fun _ w1 _ ho => put8_ok b v l n 1 w1 hn (by decide) (by omega) ho) fun v' _ => ?_
  refine go (k := ?_)
  exact XE.end0 v' [0, 1] rfl trivial rfl rfl rfl
theorem wu16_ok (b : Nat) (v : Value) (l : List UInt8) (n : Nat) (w : World) (hn : n < 65536) (hl : l.length ≤ 900000) (ho : Owns w (wrG b v l)) :
    Fx Tryd.prog 61 [ptr b, .int .u16 n] w (Ret w (wrG b v l) (fun _ : Value => .tuple #[]) (fun v' => wrG b v' (l ++ be n 2)) (fun _ => True)) := by
  refine Fx.of Tryd.func61 rfl (by kernel_rfl) Tryd.ntmps61 rfl ho ?_
  refine go (k := ?_)
  refine XL.call [0, 1] [] rfl rfl rfl rfl rfl (fun _ w1 _ ho => put16_ok b v l n 2 w1 hn (by decide) (by omega) ho) fun v' _ => ?_
  refine go (k := ?_)
  exact XE.end0 v' [0, 1] rfl trivial rfl rfl rfl
theorem wu32_ok (b : Nat) (v : Value) (l : List UInt8) (n : Nat) (w : World) (hn : n < 4294967296) (hl : l.length ≤ 900000) (ho : Owns w (wrG b v l)) :
    Fx Tryd.prog 40 [ptr b, .int .u32 n] w (Ret w (wrG b v l) (fun _ : Value => .tuple #[]) (fun v' => wrG b v' (l ++ be n 4)) (fun _ => True)) := by
  refine Fx.of Tryd.func40 rfl (by kernel_rfl) Tryd.ntmps40 rfl ho ?_
  refine go (k := ?_)
  refine XL.call [0, 1] [] rfl rfl rfl rfl rfl (fun _ w1 _ ho => put32_ok b v l n 4 w1 hn (by decide) (by omega) ho) fun v' _ => ?_
  refine go (k := ?_)
  exact XE.end0 v' [0, 1] rfl trivial rfl rfl rfl
end Go.X
