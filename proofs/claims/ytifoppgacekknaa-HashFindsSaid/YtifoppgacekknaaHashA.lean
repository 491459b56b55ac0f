/- Contracts of the functions of package hash and of its reference. -/
import Derived.Test.YtifoppgacekknaaHashP
import Derived.Test.YtifoppgacekknaaTab
namespace Go.X
open Go Go.Proofs
abbrev Pure (w : World) (v : Value) : Ending → World → Prop := Ret w [] (fun _ : Unit => v) (fun _ => []) (fun _ => True)
theorem hbucket_ok (l : List UInt8) (hl : l.length ≤ 10000) (w : World) : Fx Try.prog 8 [str l] w (Pure w (.int .u8 (bucket l))) := by
  refine Fx.of (L0 := []) Try.func8 rfl (by kernel_rfl) Try.ntmps8 rfl (Owns.nil w) ?_
  refine go (k := ?_)
  refine XC.loop (α := Nat) (fun k => [(0, str l), (3, .int .i64 ((l.length + bsum (l.take k) 0 : Nat) : Int)), (8, .int .i64 l.length), (9, .int .i64 k)]) (fun _ => [])
    (fun k => k ≤ l.length) (fun k => l.length - k) 0 [] (Nat.zero_le _) ⟨rfl, rfl, rfl, rfl, trivial⟩ rfl rfl ?_
  intro k hk
  by_cases hlt : k < l.length
  · obtain ⟨c, hc⟩ : ∃ c, l[k]? = some c := ⟨_, List.getElem?_eq_getElem hlt⟩
    have hb := hbyte_lt c
    have h1 := bsum_le (l.take k) 0
    have h2 : (l.take k).length = k := by simp; omega
    have h3 := bterm_le c k
    have h4 : (bterm c k : Int) = (c.toNat : Int) * ((k : Int) % 7 * 2 + 1) := by simp only [bterm, Int.natCast_mul, Int.natCast_add, Int.natCast_emod]; rfl
    rw [h2] at h1
    have h5 : 0 ≤ (c.toNat : Int) * ((k : Int) % 7 * 2 + 1) ∧ (c.toNat : Int) * ((k : Int) % 7 * 2 + 1) ≤ 3315 := by rw [← h4]; omega
    refine go (k := ?_)
    refine XE.mid (k + 1) [] ⟨by omega, by omega⟩ ⟨rfl, gi rfl ?_, rfl, rfl, trivial⟩ rfl rfl
    rw [htake_snoc hc, bsum_snoc, h2, Nat.zero_add, ← h4]
    omega
  · have hk' : k = l.length := by omega
    subst hk'
    rw [List.take_length]
    have h1 := bsum_le l 0
    refine go (k := ?_)
    refine XE.ret1 () [] rfl rfl trivial ?_ rfl rfl
    rfl

theorem rbucket_ok (l : List UInt8) (hl : l.length ≤ 10000) (w : World) : Fx Try.prog 9 [str l] w (Pure w (.int .i64 (bucket l))) := by
  refine Fx.of (L0 := []) Try.func9 rfl (by kernel_rfl) Try.ntmps9 rfl (Owns.nil w) ?_
  refine go (k := ?_)
  refine XL.make (.bslice rfl rfl rfl rfl rfl rfl) rfl fun v H hv => ?_
  obtain ⟨b, rfl, rfl⟩ := hv
  refine go (k := ?_)
  refine XC.loop (α := Nat) (fun k => [(0, str l), (3, .slice (some ⟨b, 0, none⟩) 7 7), (4, .int .i64 (((l.length + bsum (l.take k) 0) % 16 : Nat) : Int)), (5, .int .i64 k)])
    (fun _ => [.blk b [.int .i64 1, .int .i64 3, .int .i64 5, .int .i64 7, .int .i64 9, .int .i64 11, .int .i64 13] 3])
    (fun k => k ≤ l.length) (fun k => l.length - k) 0 [0] (Nat.zero_le _) ⟨rfl, rfl, gi rfl (by simp [bsum]), rfl, trivial⟩ rfl rfl ?_
  intro k hk
  by_cases hlt : k < l.length
  · obtain ⟨c, hc⟩ : ∃ c, l[k]? = some c := ⟨_, List.getElem?_eq_getElem hlt⟩
    have hb := hbyte_lt c
    have h2 : (l.take k).length = k := by simp; omega
    have h3 := bterm_le c k
    have h4 : (bterm c k : Int) = (c.toNat : Int) * (((k % 7 * 2 + 1 : Nat)) : Int) := by simp only [bterm, Int.natCast_mul]
    have h5 : 0 ≤ (c.toNat : Int) * (((k % 7 * 2 + 1 : Nat)) : Int) ∧ (c.toNat : Int) * (((k % 7 * 2 + 1 : Nat)) : Int) ≤ 3315 := by rw [← h4]; omega
    have h7 : k % 7 < 7 := Nat.mod_lt _ (by decide)
    have hat : ([.int .i64 1, .int .i64 3, .int .i64 5, .int .i64 7, .int .i64 9, .int .i64 11, .int .i64 13] : List Value)[k % 7 * 1]? = some (.int .i64 (((k % 7 * 2 + 1 : Nat)) : Int)) := by
      rcases (show k % 7 = 0 ∨ k % 7 = 1 ∨ k % 7 = 2 ∨ k % 7 = 3 ∨ k % 7 = 4 ∨ k % 7 = 5 ∨ k % 7 = 6 by omega) with h | h | h | h | h | h | h <;> rw [h] <;> rfl
    refine go (k := ?_)
    rw [show ((k : Int) % 7) = ((k % 7 : Nat) : Int) from by omega]
    refine go (k := ?_)
    refine XE.mid (k + 1) [0] ⟨by omega, by omega⟩ ⟨rfl, rfl, gi rfl ?_, rfl, trivial⟩ rfl rfl
    rw [htake_snoc hc, bsum_snoc, h2, Nat.zero_add, ← h4]
    omega
  · have hk' : k = l.length := by omega
    subst hk'
    rw [List.take_length]
    refine go (k := ?_)
    refine XE.ret1 () [] rfl rfl trivial ?_ rfl rfl
    rfl

/-! ### slices -/
theorem index_ok (v : Value) (xs : List Int) (x : Int) (w : World) (hv : RowAt w v 1 xs.length (uvs xs)) (hl : xs.length ≤ 4611686018427387904) : Fx Try.prog 29 [v, uv x] w (Pure w (.int .i64 (idxOf x xs))) := by
  obtain ⟨ao, c, rfl, h1, h2, h3⟩ := hv
  refine Fx.of (L0 := []) Try.func29 rfl (by kernel_rfl) Try.ntmps29 rfl (Owns.nil w) ?_
  refine go (k := ?_)
  refine XC.loop (α := Nat) (fun k => [(0, .slice ao xs.length c), (1, uv x), (4, .int .i64 0), (7, .int .i64 xs.length), (8, .int .i64 k)]) (fun _ => [])
    (fun k => k ≤ xs.length ∧ x ∉ xs.take k) (fun k => xs.length - k) 0 [] ⟨Nat.zero_le _, by simp⟩ ⟨rfl, rfl, rfl, rfl, rfl, trivial⟩ rfl rfl ?_
  intro k ⟨hk, hn⟩
  by_cases hlt : k < xs.length
  · obtain ⟨y, hy⟩ : ∃ y, xs[k]? = some y := ⟨_, List.getElem?_eq_getElem hlt⟩
    rcases h3 with h3 | ⟨b, off, cs, t, fz, rfl, h5, h6⟩
    · omega
    have hat : cs[off + k * 1]? = some (uv y) := by rw [Nat.mul_one]; exact cut_all h6 k _ (by simp [uvs, hy])
    have hB : b ∉ ids ([] : Heap) := by simp [X.ids]
    by_cases hxy : x = y
    · subst hxy
      refine go (k := ?_)
      refine XE.ret1 () [] rfl rfl trivial ?_ rfl rfl
      rw [idxOf_at hy hn]
    · refine go (k := ?_)
      refine XE.mid (k + 1) [] ⟨⟨by omega, ?_⟩, by omega⟩ ⟨rfl, rfl, rfl, rfl, rfl, trivial⟩ rfl rfl
      rw [htake_snoc hy]; simp [hn, hxy]
  · have hk' : k = xs.length := by omega
    subst hk'
    rw [List.take_length] at hn
    refine go (k := ?_)
    refine XE.ret1 () [] rfl rfl trivial ?_ rfl rfl
    rw [idxOf_none hn]
theorem contains_ok (v : Value) (xs : List Int) (x : Int) (w : World) (hv : RowAt w v 1 xs.length (uvs xs)) (hl : xs.length ≤ 4611686018427387904) : Fx Try.prog 28 [v, uv x] w (Pure w (.bool (decide (0 ≤ idxOf x xs)))) := by
  refine Fx.of (L0 := []) Try.func28 rfl (by kernel_rfl) Try.ntmps28 rfl (Owns.nil w) ?_
  refine go (k := ?_)
  refine XL.q (.call rfl rfl fun _ w' hs => index_ok v xs x w' ((Rd.old hv (fun _ _ _ => by simp [X.ids])) w' hs.own hs.kept) hl) rfl ?_
  refine go (k := ?_)
  refine XE.ret1 () [] rfl rfl trivial rfl rfl rfl
theorem clone_ok (v : Value) (xs : List Int) (w : World) (hv : RowAt w v 1 xs.length (uvs xs)) (hl : xs.length ≤ 17592186044416) :
    Fx Try.prog 27 [v] w (Ret w [] (fun v : Value => v) (fun v => [.sl v 35 1 (uvs xs)]) (fun _ => True)) := by
  have hv' := hv
  obtain ⟨ao, c, rfl, h1, h2, h3⟩ := hv'
  refine Fx.of (L0 := []) Try.func27 rfl (by kernel_rfl) Try.ntmps27 rfl (Owns.nil w) ?_
  refine go (k := ?_)
  refine XL.q (.eqNilSl rfl rfl rfl) rfl ?_
  cases ao with
  | none =>
    obtain rfl : xs = [] := by
      rcases h3 with h3 | ⟨_, _, _, _, _, h4, _⟩
      · exact List.eq_nil_of_length_eq_zero h3
      · cases h4
    refine go (k := ?_)
    refine XE.addNil 35 1 ?_
    exact XE.ret1 (.slice none 0 0) [0] rfl rfl trivial rfl rfl rfl
  | some a =>
    refine go (k := ?_)
    refine XL.make (.bslice rfl rfl rfl rfl rfl rfl) rfl fun v H hb => ?_
    obtain ⟨b, rfl, rfl⟩ := hb
    refine go (k := ?_)
    have hrd : ∀ (L : Heap), Rd w (ids []) L (.slice (some a) xs.length c) 1 xs.length (uvs xs) := fun L => .old hv (fun _ _ _ => by simp [X.ids])
    have hone : (uvs xs).all Value.oneCell' = true := by simp [uvs, Value.oneCell']
    by_cases h0 : xs.length = 0
    · have hnil : xs = [] := List.eq_nil_of_length_eq_zero h0
      subst hnil
      refine XL.appRoom (cs' := []) rfl rfl rfl rfl rfl (.head _) (hrd _) hone (Nat.le_refl _) ⟨Nat.le_refl _, rfl⟩ .here rfl ?_
      refine go (k := ?_)
      refine XE.shutSl (m := 0) (cap := 0) (k := 1) (xs := []) (.head _) rfl (Nat.le_refl _) (Nat.zero_le _) rfl .here ?_
      exact XE.ret1 _ [0] rfl rfl trivial rfl rfl rfl
    · refine XL.make (.grow rfl rfl rfl rfl rfl rfl (by decide) .empty (hrd _) hone (by omega) (by simp; omega) (by simp; omega)) rfl fun v H hb => ?_
      subst hb
      refine go (k := ?_)
      exact XE.ret1 v [0] rfl rfl trivial rfl rfl rfl

theorem delete_ok (v : Value) (xs : List Int) (i : Nat) (w : World) (hi : i < xs.length) (hl : xs.length ≤ 4611686018427387904) (ho : Owns w [.sl v 35 1 (uvs xs)]) :
    Fx Try.prog 30 [v, .int .i64 i, .int .i64 ((i : Int) + 1)] w (Ret w [.sl v 35 1 (uvs xs)] (fun v : Value => v) (fun v => [.sl v 35 1 (uvs (xs.eraseIdx i))]) (fun _ => True)) := by
  refine Fx.of Try.func30 rfl (by kernel_rfl) Try.ntmps30 rfl ho ?_
  refine XC.openSl (m := xs.length) (.head _) (by decide) (by simp) (by omega) (fun _ _ => .here) fun b cs cap hv hc hcl hct => ?_
  subst hv
  obtain ⟨rest, rfl⟩ : ∃ rest, cs = uvs xs ++ rest := ⟨cs.drop (uvs xs).length, by rw [← hct, List.length_take, Nat.min_eq_left (by have := congrArg List.length hct; simp only [List.length_take] at this; omega), List.take_append_drop]⟩
  have hxl : (uvs xs).length = xs.length := by simp
  refine go (k := ?_)
  refine XL.q (.cutX (l := i) (h := i + 1) (q := xs.length) rfl (.inl ⟨_, _, rfl, rfl⟩) (.inl ⟨_, _, rfl, rfl⟩) (.inl ⟨_, _, rfl, rfl⟩) rfl rfl (by omega) (by omega) hc) rfl ?_
  refine go (k := ?_)
  refine XD.q (.cutX (l := i + 1) (h := xs.length) (q := cap) rfl (.inl ⟨_, _, rfl, rfl⟩) (.inr ⟨rfl, rfl, rfl⟩) (.inr ⟨rfl, rfl⟩) rfl rfl (by omega) hc (Nat.le_refl _)) rfl ?_
  refine go (k := ?_)
  have hnews : (uvs (xs.drop (i + 1))).length = xs.length - (i + 1) := by simp
  refine XL.appRoom (news := uvs (xs.drop (i + 1))) (cs' := uvs (xs.take i) ++ uvs (xs.drop (i + 1)) ++ (uvs (xs.drop (xs.length - 1)) ++ rest)) rfl rfl rfl rfl rfl (.head _)
    (.cut (.head _) (by rw [hnews, Nat.mul_one]) (by omega) (by omega) (by
      rw [cut_some (by rw [hnews]; simp; omega), hnews]
      congr 1
      rw [show 0 + (i + 1) * 1 = i + 1 by omega, List.drop_append_of_le_length (by simp; omega), List.take_append_of_le_length (by simp), uvs, ← List.map_drop]
      rw [List.take_of_length_le (by simp)]))
    (uvs_one _) (by omega) ⟨by rw [hnews]; simp; omega, ?_⟩ .here rfl ?_
  · rw [hnews, show 0 + i * 1 = i by omega]
    rw [List.take_append_of_le_length (by simp; omega), List.drop_append_of_le_length (by simp; omega)]
    simp only [uvs, ← List.map_take, ← List.map_drop]
    rw [show i + (xs.length - (i + 1)) = xs.length - 1 by omega]
  refine go (k := ?_)
  have hlast : i + (xs.length - (i + 1)) = xs.length - 1 := by omega
  have hsplit : uvs (xs.drop (xs.length - 1)) = [uv (xs[xs.length - 1]'(by omega))] := by
    rw [List.drop_eq_getElem_cons (by omega), List.drop_of_length_le (by omega)]; rfl
  rw [hlast]
  refine XL.q (.cutL (l := xs.length - 1) (h := xs.length) rfl rfl rfl rfl rfl (by omega) hc (by omega)) rfl ?_
  rw [show xs.length - (xs.length - 1) = 1 by omega]
  refine XL.clear (cs' := uvs (xs.take i) ++ uvs (xs.drop (i + 1)) ++ (uv 0 :: rest)) rfl rfl rfl rfl (.head _) ⟨?_, ?_⟩ .here ?_
  · simp [zerosL, Value.cells]; omega
  · have e1 : (uvs (xs.take i) ++ uvs (xs.drop (i + 1))).length = 0 + (xs.length - 1) * 1 := by simp; omega
    rw [hsplit, ← e1]
    generalize uvs (xs.take i) ++ uvs (xs.drop (i + 1)) = A
    have e4 : (zerosL (Value.int IntKind.u32 0).cells.toList 1) = [uv 0] := rfl
    rw [e4, List.take_left, List.length_singleton, ← List.drop_drop, List.drop_left]
    simp
  refine go (k := ?_)
  have e2 : uvs (xs.eraseIdx i) = uvs (xs.take i) ++ uvs (xs.drop (i + 1)) := by rw [List.eraseIdx_eq_take_drop_succ, uvs_app]
  have e3 : (uvs (xs.take i) ++ uvs (xs.drop (i + 1))).length = xs.length - 1 := by simp; omega
  refine XE.shutSl (m := xs.length - 1) (cap := cap) (k := 1) (xs := uvs (xs.eraseIdx i)) (.head _) (by rw [e2, e3, Nat.mul_one]) (by omega) ?_ (by rw [e2, List.take_left]) .here ?_
  · simp at hcl ⊢; omega
  exact XE.ret1 _ [0] rfl rfl trivial rfl rfl rfl
end Go.X
