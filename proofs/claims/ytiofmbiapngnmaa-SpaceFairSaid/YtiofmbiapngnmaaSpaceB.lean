/- More contracts of package space: making, copying, the iteration, Take, Count, Load. -/
import Derived.Test.YtiofmbiapngnmaaSpaceA
namespace Go.X
open Go Go.Proofs
abbrev spE (b : Nat) (lv : Value) (f n : Nat) (u : Nat → Bool) : Ent := grp (spG b lv f n u)
theorem swds_zero (m : Nat) : zerosL [Value.int .u64 0, .int .u64 0, .int .u64 0, .int .u64 0] m = swds (fun _ => false) (m * 4) := by
  apply List.ext_getElem?
  intro i
  by_cases h : i < m * 4
  · rw [zerosL_get _ _ _ (by simpa using h), swds_at _ h]
    have h0 : ∀ n, wbits (fun _ => false) n = 0 := fun n => by
      induction n with
      | zero => rfl
      | succ n ih => simp [wbits, ih]
    have : swd (fun _ => false) i = .int .u64 0 := by unfold swd; rw [h0]; rfl
    rw [this]
    have h4 : i % 4 < 4 := Nat.mod_lt _ (by decide)
    show [Value.int .u64 0, .int .u64 0, .int .u64 0, .int .u64 0][i % 4]? = _
    rcases (show i % 4 = 0 ∨ i % 4 = 1 ∨ i % 4 = 2 ∨ i % 4 = 3 by omega) with h | h | h | h <;> rw [h] <;> rfl
  · rw [List.getElem?_eq_none (by rw [zerosL_length]; simpa using h), List.getElem?_eq_none (by rw [swds_len]; omega)]
theorem snew_none (f n : Int) (w : World) (h : f < 0 ∨ n ≤ f ∨ 2048 < n) : Fx Try.prog 7 [iv f, iv n] w (Pure w (.pointer none)) := by
  refine Fx.of (L0 := []) Try.func7 rfl (by kernel_rfl) Try.ntmps7 rfl (Owns.nil w) ?_
  by_cases h0 : f < 0
  · refine go (k := ?_)
    exact XE.ret1 () [] rfl rfl trivial rfl rfl rfl
  by_cases h1 : n ≤ f
  · refine go (k := ?_)
    exact XE.ret1 () [] rfl rfl trivial rfl rfl rfl
  · have h2 : 2048 < n := by omega
    refine go (k := ?_)
    exact XE.ret1 () [] rfl rfl trivial rfl rfl rfl
theorem snew_ok (f n : Nat) (w : World) (h1 : f < n) (h2 : n ≤ 2048) : Fx Try.prog 7 [iv f, iv n] w (Ret w [] (fun x : Nat × Value => ptr x.1) (fun x => [spE x.1 x.2 f n (fun _ => false)]) (fun _ => True)) := by
  refine Fx.of (L0 := []) Try.func7 rfl (by kernel_rfl) Try.ntmps7 rfl (Owns.nil w) ?_
  refine go (k := ?_)
  rw [show ((n : Int) - 1) / 256 + 1 = ((pgs n : Nat) : Int) from by unfold pgs; omega]
  have hp : pgs n ≤ 8 := by unfold pgs; omega
  refine XL.make (.mslice rfl rfl rfl rfl rfl (Nat.le_refl _) (by omega) (by omega)) rfl fun v H hv => ?_
  obtain ⟨b1, rfl, rfl⟩ := hv
  refine go (k := ?_)
  refine XL.box rfl rfl rfl fun b => ?_
  refine go (k := ?_)
  refine XE.shutSl (m := pgs n) (cap := pgs n) (k := 4) (xs := swds (fun _ => false) (pgs n * 4)) (.tail _ (.head _)) (by rw [swds_len]) (Nat.le_refl _) (by rw [zerosL_length]; exact Nat.le_refl _) ?_ (.there .here) ?_
  · show (zerosL [Value.int .u64 0, .int .u64 0, .int .u64 0, .int .u64 0] (pgs n)).take _ = _
    rw [swds_zero, List.take_length]
  refine XE.all ?_
  exact XE.ret1 (b, .slice (some ⟨b1, 0, none⟩) (pgs n) (pgs n)) [0] rfl rfl trivial rfl rfl rfl
/-! ### Use, Give of any block -/
def suse (f n : Nat) (u : Nat → Bool) (a : Int) : Int × (Nat → Bool) := if a < f ∨ n ≤ a then (2, u) else if u a.toNat = true then (6, u) else (0, upd u a.toNat true)
def sgive (f n : Nat) (u : Nat → Bool) (a : Int) : Int × (Nat → Bool) := if a < f ∨ n ≤ a then (2, u) else if u a.toNat = true then (0, upd u a.toNat false) else (5, u)
theorem use_ok (b : Nat) (lv : Value) (f n : Nat) (u : Nat → Bool) (a : Int) (w : World) (hn0 : 0 < n) (hn : n ≤ 2048) (ho : Owns w [spE b lv f n u]) :
    Fx Try.prog 8 [ptr b, iv a] w (Ret w [spE b lv f n u] (fun _ : Unit => iv (suse f n u a).1) (fun _ => [spE b lv f n (suse f n u a).2]) (fun _ => True)) := by
  by_cases ha : a < f ∨ n ≤ a
  · have e : suse f n u a = (2, u) := by unfold suse; rw [if_pos ha]
    rw [e]
    exact Fx.keep ho (use_out b lv f n u a w hn0 ha (ho.grp (.head _)))
  · obtain ⟨k, rfl⟩ : ∃ k : Nat, a = k := ⟨a.toNat, by omega⟩
    have h := Fx.grp (fun ho => use_in b lv f n u k w hn (by omega) (by omega) ho) ho
    by_cases hu : u k = true
    · have e : suse f n u k = (6, u) := by unfold suse; rw [if_neg ha, if_pos (by simpa using hu)]
      rw [e]
      rw [if_pos hu, upd_same hu] at h
      exact h
    · have e : suse f n u k = (0, upd u k true) := by unfold suse; rw [if_neg ha, if_neg (by simpa using hu)]; simp
      rw [e]
      rw [if_neg hu] at h
      exact h
theorem give_ok (b : Nat) (lv : Value) (f n : Nat) (u : Nat → Bool) (a : Int) (w : World) (hn0 : 0 < n) (hn : n ≤ 2048) (ho : Owns w [spE b lv f n u]) :
    Fx Try.prog 9 [ptr b, iv a] w (Ret w [spE b lv f n u] (fun _ : Unit => iv (sgive f n u a).1) (fun _ => [spE b lv f n (sgive f n u a).2]) (fun _ => True)) := by
  by_cases ha : a < f ∨ n ≤ a
  · have e : sgive f n u a = (2, u) := by unfold sgive; rw [if_pos ha]
    rw [e]
    exact Fx.keep ho (give_out b lv f n u a w hn0 ha (ho.grp (.head _)))
  · obtain ⟨k, rfl⟩ : ∃ k : Nat, a = k := ⟨a.toNat, by omega⟩
    have h := Fx.grp (fun ho => give_in b lv f n u k w hn (by omega) (by omega) ho) ho
    by_cases hu : u k = true
    · have e : sgive f n u k = (0, upd u k false) := by unfold sgive; rw [if_neg ha, if_pos (by simpa using hu)]; simp
      rw [e]
      rw [if_pos hu] at h
      exact h
    · have e : sgive f n u k = (5, u) := by unfold sgive; rw [if_neg ha, if_neg (by simpa using hu)]
      rw [e]
      rw [if_neg hu, upd_same (show u k = false by simpa using hu)] at h
      exact h
/-! ### The iteration -/
theorem sall_ok (x : Value) (hx : x.cells.toList = [x]) (w : World) : Fx Try.prog 20 [x] w (Ret w [] (fun bx : Nat => .func (.func 31) #[] #[ptr bx]) (fun bx => [.blk bx [x] 25]) (fun _ => True)) := by
  refine Fx.of (L0 := []) Try.func20 rfl (by kernel_rfl) Try.ntmps20 rfl (Owns.nil w) ?_
  refine go (k := ?_)
  refine XL.box rfl hx rfl fun bx => ?_
  refine go (k := ?_)
  exact XE.ret1 bx [0] rfl rfl trivial rfl rfl rfl
theorem sall_not (x : Value) (G : Heap) (bx : Nat) (hG : ∀ w, Owns w G → Fx Try.prog 25 [x] w (Pure w (.bool false))) : Seq Try.prog 31 [] [ptr bx] [.blk bx [x] 25, grp G] [] := by
  intro α β l M φ Z ψ w x0 hx0 ho hy
  refine Fx.of Try.func31 rfl (by kernel_rfl) Try.ntmps31 rfl ho ?_
  refine go (k := ?_)
  refine XL.q (.call rfl rfl fun _ w hs => hG w (hs.own.grp (.tail _ (.head _)))) rfl ?_
  refine go (k := ?_)
  exact XE.ret0 (Sum.inl x0) [0, 1, 2] rfl hx0 rfl rfl rfl
theorem frees_split (u : Nat → Bool) {f k n : Nat} (h1 : f ≤ k) (h2 : k ≤ n) : frees f n u = frees f k u ++ frees k n u := by
  unfold frees
  rw [← List.filter_append]
  congr 1
  obtain ⟨a, rfl⟩ : ∃ a, k = f + a := ⟨k - f, by omega⟩
  obtain ⟨c, rfl⟩ : ∃ c, n = f + a + c := ⟨n - (f + a), by omega⟩
  rw [show f + a - f = a by omega, show f + a + c - (f + a) = c by omega, show f + a + c - f = a + c by omega]
  exact List.range'_append_1.symm
theorem frees_cons (u : Nat → Bool) {k n : Nat} (h : k < n) : frees k n u = (if u k = true then [] else [k]) ++ frees (k + 1) n u := by
  rw [frees_split u (show k ≤ k + 1 by omega) h]
  congr 1
  unfold frees
  rw [show k + 1 - k = 1 by omega]
  by_cases hu : u k = true <;> simp [hu]
theorem frees_self (u : Nat → Bool) (k : Nat) : frees k k u = [] := by unfold frees; simp
theorem frees_snoc (u : Nat → Bool) {f k : Nat} (h : f ≤ k) : frees f (k + 1) u = frees f k u ++ (if u k = true then [] else [k]) := by
  rw [frees_split u h (Nat.le_succ k), frees_cons u (Nat.lt_succ_self k), frees_self, List.append_nil]
theorem frees_get (u : Nat → Bool) {f k n : Nat} (h1 : f ≤ k) (h2 : k < n) (hu : ¬ u k = true) : (frees f n u)[(frees f k u).length]? = some k := by
  rw [frees_split u h1 (Nat.le_of_lt h2), List.getElem?_append_right (Nat.le_refl _), Nat.sub_self, frees_cons u h2, if_neg hu]; rfl
theorem frees_len (u : Nat → Bool) (f n : Nat) : (frees f n u).length ≤ n := by
  unfold frees
  refine Nat.le_trans (List.length_filter_le _ _) ?_
  simp
abbrev sitems (f n : Nat) (u : Nat → Bool) : List (List Value) := (frees f n u).map fun (k : Nat) => [iv k]
theorem sitems_form {f n : Nat} {u : Nat → Bool} {k : Nat} {vs : List Value} (h : (sitems f n u)[k]? = some vs) : ∃ j : Nat, vs = [iv j] ∧ (frees f n u)[k]? = some j := by
  rw [List.getElem?_map] at h
  cases hj : (frees f n u)[k]? with
  | none => rw [hj] at h; cases h
  | some j => rw [hj] at h; exact ⟨j, (Option.some.inj h).symm, rfl⟩
theorem sall_seq (bx b : Nat) (lv : Value) (f n : Nat) (u : Nat → Bool) (h1 : f < n) (h2 : n ≤ 2048) : Seq Try.prog 31 [] [ptr bx] [.blk bx [ptr b] 25, spE b lv f n u] (sitems f n u) := by
  intro α β l M φ Z ψ w x0 hx0 ho hy
  refine Fx.of Try.func31 rfl (by kernel_rfl) Try.ntmps31 rfl ho ?_
  have hin : decide (0 < (n : Int)) = true := decide_eq_true (by omega)
  refine go (k := ?_)
  refine XL.q (.call rfl rfl fun _ w hs => sis_ok b f n lv _ _ w ((hs.own.grp (.tail _ (.head _))).ok _ (.head _))) rfl ?_
  rw [hin]
  refine go (k := ?_)
  refine XL.q (.inG (.tail _ (.head _)) (.ld rfl rfl rfl (.head _) rfl)) rfl ?_
  refine go (k := ?_)
  refine XC.loop (α := Nat × α) (fun x => [(0, yv l), (1, ptr bx), (3, iv x.1)]) (fun x => [.blk bx [ptr b] 25, spE b lv f n u, M x.2])
    (fun x => f ≤ x.1 ∧ x.1 ≤ n ∧ φ (frees f x.1 u).length x.2) (fun x => n - x.1) (f, x0) [0, 1, 2] ⟨Nat.le_refl _, Nat.le_of_lt h1, by rw [frees_self]; exact hx0⟩ ⟨rfl, rfl, rfl, trivial⟩ rfl rfl ?_
  rintro ⟨k, x⟩ ⟨hk1, hk2, hx⟩
  simp only at hk1 hk2 hx ⊢
  refine go (k := ?_)
  refine XL.q (.inG (.tail _ (.head _)) (.ld rfl rfl rfl (.head _) rfl)) rfl ?_
  by_cases hlt : k < n
  · refine go (k := ?_)
    refine XL.q (.call rfl rfl fun _ w hs => free_ok b lv f n u k w (by omega) h2 (hs.own.grp (.tail _ (.head _)))) rfl ?_
    rw [show (decide ((f : Int) ≤ k) && decide ((k : Int) < n) && !u (k : Int).toNat) = !u k from by rw [decide_eq_true (show (f : Int) ≤ k by omega), decide_eq_true (show (k : Int) < n by omega)]; simp]
    have hsn := frees_snoc u hk1
    by_cases hu : u k = true
    · rw [if_pos hu, List.append_nil] at hsn
      rw [hu]
      refine go (k := ?_)
      exact XE.mid (k + 1, x) [0, 1, 2] ⟨⟨by simp only; omega, by simp only; omega, by simp only; rw [hsn]; exact hx⟩, by simp only; omega⟩ ⟨rfl, rfl, rfl, trivial⟩ rfl rfl
    · rw [if_neg hu] at hsn
      have hu' : u k = false := by simpa using hu
      rw [hu']
      have hit : (sitems f n u)[(frees f k u).length]? = some [iv k] := by rw [List.getElem?_map, frees_get u hk1 hlt hu]; rfl
      refine go (k := ?_)
      refine XL.yield [0, 1, 2] [] rfl rfl rfl rfl rfl (fun a w' hs ho' => hy _ _ x w' hit hx ho' hs.kept fun b hb => hs.wr b hb) fun z hz => ?_
      rcases z with x'' | y
      · refine go (k := ?_)
        exact XE.mid (k + 1, x'') [0, 1, 2] ⟨⟨by simp only; omega, by simp only; omega, by simp only; rw [hsn, List.length_append]; exact hz⟩, by simp only; omega⟩ ⟨rfl, rfl, rfl, trivial⟩ rfl rfl
      · refine go (k := ?_)
        exact XE.ret0 (Sum.inr y) [0] rfl hz rfl rfl rfl
  · obtain rfl : k = n := by omega
    refine go (k := ?_)
    refine XE.end0 (Sum.inl x) [0, 1, 2] rfl ?_ rfl rfl rfl
    simpa using hx
end Go.X
