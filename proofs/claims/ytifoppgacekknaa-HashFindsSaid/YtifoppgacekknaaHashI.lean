/- The argument []Act. -/
import Derived.Test.YtifoppgacekknaaHashH
import Derived.Test.YtifoppgacekknaaRows2
namespace Go.X
open Go Go.Proofs Go.RowKit
theorem choose_fn {α : Type} [Inhabited α] {Q : Nat → α → Prop} {n : Nat} (h : ∀ i, i < n → ∃ x, Q i x) : ∃ g : Nat → α, ∀ i, i < n → Q i (g i) :=
  ⟨fun i => if hi : i < n then Classical.choose (h i hi) else default, fun i hi => by simp only [dif_pos hi]; exact Classical.choose_spec (h i hi)⟩
instance : Inhabited HAct := ⟨⟨0, [], 0⟩⟩
theorem acells_map (g : Nat → HAct) : ∀ l : List Nat, acells (l.map g) = l.flatMap fun i => [.int .u8 (g i).what, str (g i).s, uv (g i).id]
  | [] => rfl
  | x :: l => by simp only [List.map_cons, acells, List.flatMap_cons, acells_map g l]; rfl
theorem acts_of {H : Type} {enc : TypeId × Value → H} {w : World} {spare : Nat → Bool} {held : Bool} {v : Value} (h : KOk enc Try.prog w 0 spare held (.sl 37) v) :
    ∃ acts : List HAct, RowAt w v 3 acts.length (acells acts) ∧ acts.length ≤ maxLen ∧ ∀ a ∈ acts, a.s.length ≤ maxLen ∧ 0 ≤ a.what ∧ a.what ≤ 255 := by
  have hk : Try.prog.cellsOf 37 = 3 := by kernel_rfl
  have hfl : flat Try.prog 4 37 = some [(0, .int .u8), (1, .str), (2, .int .u32)] := by kernel_rfl
  rcases h with rfl | ⟨a, len, cap, rfl, hc, hm, _, hi⟩
  · exact ⟨[], ⟨none, 0, rfl, rfl, Nat.le_refl _, .inl rfl⟩, Nat.zero_le _, fun a ha => by cases ha⟩
  · rw [hk] at hi
    have hact : ∀ i, i < len → ∃ x : HAct, w.cells? 0 (a.add (i * 3)) 3 = some [.int .u8 x.what, str x.s, uv x.id] ∧ x.s.length ≤ maxLen ∧ 0 ≤ x.what ∧ x.what ≤ 255 := by
      intro i hil
      obtain ⟨cs, fuel, y, h1, h2⟩ := hi i hil
      obtain ⟨_, hl, _⟩ := World.cells?_some h1
      obtain ⟨c0, c1, c2, rfl⟩ := len3 hl
      have hf := flat_ok 4 hfl h2
      obtain ⟨_, e0, n0, rfl, b0⟩ := hf (0, .int .u8) (.head _)
      obtain ⟨_, e1, s1, rfl, b1⟩ := hf (1, .str) (.tail _ (.head _))
      obtain ⟨_, e2, n2, rfl, b2⟩ := hf (2, .int .u32) (.tail _ (.tail _ (.head _)))
      obtain rfl := Option.some.inj e0
      obtain rfl := Option.some.inj e1
      obtain rfl := Option.some.inj e2
      have hw := wf_u8 b0
      exact ⟨⟨n0, s1.data.toList, n2⟩, h1, b1, hw.1, hw.2⟩
    obtain ⟨g, hg⟩ := choose_fn hact
    refine ⟨(List.range len).map g, ?_, by simpa using Nat.le_trans hc hm, fun x hx => ?_⟩
    · rw [List.length_map, List.length_range, acells_map]
      exact rowAt_of (by decide) hc _ fun i hil => (hg i hil).1
    · obtain ⟨i, hi', rfl⟩ := List.mem_map.1 hx
      exact (hg i (List.mem_range.1 hi')).2
end Go.X
