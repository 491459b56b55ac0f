/- HashFinds. -/
import Derived.Test.YtifoppgacekknaaHashK
namespace Go.X
open Go Go.Proofs Go.RowKit
theorem place_ok (v : Value) (xs : List Int) (x : Int) (w : World) (hv : RowAt w v 1 xs.length (uvs xs)) (hl : xs.length ≤ 4611686018427387904) : Fx Try.prog 20 [v, uv x] w (Pure w (.int .i64 (idxOf x xs))) := by
  obtain ⟨ao, c, rfl, h1, h2, h3⟩ := hv
  refine Fx.of (L0 := []) Try.func20 rfl (by kernel_rfl) Try.ntmps20 rfl (Owns.nil w) ?_
  refine go (k := ?_)
  refine XC.loop (α := Nat) (fun k => [(0, .slice ao xs.length c), (1, uv x), (5, .int .i64 k)]) (fun _ => [])
    (fun k => k ≤ xs.length ∧ x ∉ xs.take k) (fun k => xs.length - k) 0 [] ⟨Nat.zero_le _, by simp⟩ ⟨rfl, rfl, rfl, trivial⟩ rfl rfl ?_
  intro k ⟨hk, hn⟩
  by_cases hlt : k < xs.length
  · obtain ⟨y, hy⟩ : ∃ y, xs[k]? = some y := ⟨_, List.getElem?_eq_getElem hlt⟩
    rcases h3 with h3 | ⟨b, off, cs, t, fz, rfl, h5, h6⟩
    · omega
    have hat : cs[off + k * 1]? = some (uv y) := by rw [Nat.mul_one]; exact cut_all h6 k _ (by simp [uvs, hy])
    have hB : b ∉ ids ([] : Heap) := by simp [X.ids]
    by_cases hxy : y = x
    · subst hxy
      refine go (k := ?_)
      refine XE.ret1 () [] rfl rfl trivial ?_ rfl rfl
      rw [idxOf_at hy hn]
    · refine go (k := ?_)
      refine XE.mid (k + 1) [] ⟨⟨by omega, ?_⟩, by omega⟩ ⟨rfl, rfl, rfl, trivial⟩ rfl rfl
      rw [htake_snoc hy]; simp [hn, Ne.symm hxy]
  · have hk' : k = xs.length := by omega
    subst hk'
    rw [List.take_length] at hn
    refine go (k := ?_)
    refine XE.ret1 () [] rfl rfl trivial ?_ rfl rfl
    rw [idxOf_none hn]
theorem idxOf_map (f : Int → Nat) (x : Int) : ∀ l : List Int, idxOf (f x, x) (l.map fun y => (f y, y)) = idxOf x l
  | [] => rfl
  | y :: l => by
    simp only [List.map_cons, idxOf, idxOf_map f x l]
    by_cases h : y = x
    · subst h; simp
    · rw [if_neg h, if_neg (fun e => h (Prod.mk.inj e).2)]
theorem ofB_map (f : Int → Nat) (j : Nat) : ∀ l : List Int, ofB j (l.map fun y => (f y, y)) = l.filter fun y => f y = j
  | [] => rfl
  | y :: l => by
    have ih := ofB_map f j l
    unfold ofB at ih ⊢
    by_cases h : f y = j
    · simp [h, ih]
    · simp [h, ih]
/-- what the law keeps of an index -/
structure FRel (f : Int → Nat) (ps : Ixs) (l : List Int) : Prop where
  rel : HRel ps (l.map fun y => (f y, y))
  small : ∀ x ∈ l, 0 ≤ x ∧ x < 200
theorem FRel.at_ {f : Int → Nat} {ps : Ixs} {l : List Int} (h : FRel f ps l) (j : Nat) (hj : j < 16) : ∃ v, ps[j]? = some (v, l.filter fun y => f y = j) := by
  obtain ⟨v, hv⟩ := h.rel.at_ j hj
  exact ⟨v, by rw [hv, ofB_map]⟩
theorem acts_of' {H : Type} {enc : TypeId × Value → H} {w : World} {spare : Nat → Bool} {held : Bool} {v : Value} (h : KOk enc Try.prog w 0 spare held (.sl 37) v) :
    ∃ acts : List HAct, RowAt w v 3 acts.length (acells acts) ∧ acts.length ≤ maxLen ∧ ∀ a ∈ acts, a.s.length ≤ maxLen ∧ (0 ≤ a.what ∧ a.what ≤ 255) ∧ 0 ≤ a.id ∧ a.id ≤ 4294967295 := by
  have hk : Try.prog.cellsOf 37 = 3 := by kernel_rfl
  have hfl : flat Try.prog 4 37 = some [(0, .int .u8), (1, .str), (2, .int .u32)] := by kernel_rfl
  rcases h with rfl | ⟨a, len, cap, rfl, hc, hm, _, hi⟩
  · exact ⟨[], ⟨none, 0, rfl, rfl, Nat.le_refl _, .inl rfl⟩, Nat.zero_le _, fun a ha => by cases ha⟩
  · rw [hk] at hi
    have hact : ∀ i, i < len → ∃ x : HAct, w.cells? 0 (a.add (i * 3)) 3 = some [.int .u8 x.what, str x.s, uv x.id] ∧ x.s.length ≤ maxLen ∧ (0 ≤ x.what ∧ x.what ≤ 255) ∧ 0 ≤ x.id ∧ x.id ≤ 4294967295 := by
      intro i hil
      obtain ⟨cs, fuel, y, h1, h2⟩ := hi i hil
      obtain ⟨_, hl, _⟩ := World.cells?_some h1
      obtain ⟨c0, c1, c2, rfl⟩ := len3 hl
      have hf := flat_ok 4 hfl h2
      obtain ⟨_, e0, n0, rfl, b0⟩ := hf (0, .int .u8) (.head _)
      obtain ⟨_, e1, s1, rfl, b1⟩ := hf (1, .str) (.tail _ (.head _))
      obtain ⟨_, e2, n2, rfl, b2⟩ := hf (2, .int .u32) (.tail _ (.tail _ (.head _)))
      obtain rfl := Option.some.inj e0
      obtain rfl := Option.some.inj e1
      obtain rfl := Option.some.inj e2
      exact ⟨⟨n0, s1.data.toList, n2⟩, h1, b1, wf_u8 b0, wf_u32 b2⟩
    obtain ⟨g, hg⟩ := choose_fn hact
    refine ⟨(List.range len).map g, ?_, by simpa using Nat.le_trans hc hm, fun x hx => ?_⟩
    · rw [List.length_map, List.length_range, acells_map]
      exact rowAt_of (by decide) hc _ fun i hil => (hg i hil).1
    · obtain ⟨i, hi', rfl⟩ := List.mem_map.1 hx
      exact (hg i (List.mem_range.1 hi')).2
end Go.X
