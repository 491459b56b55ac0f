/- The reference of package device (revertref11): Crash. -/
import Derived.Test.YtckelpenodabdaaDevQ
namespace Go.X
open Go Go.Proofs
def cutc (ch : List Int) (i : Nat) : Nat := min (Fc ch i) 64
def rcrs (ch : List Int) (fs : List (List UInt8)) (rl : List Fr) : Nat → List (List UInt8)
  | 0 => fs
  | i + 1 => match rl[i]? with
    | some x => (rcrs ch fs rl i).set x.1 (x.2.take (cutc ch i) ++ ((rcrs ch fs rl i).getD x.1 []).drop (cutc ch i))
    | none => rcrs ch fs rl i
structure ROk (fs : List (List UInt8)) (rl : List Fr) : Prop where
  firm : ∀ f ∈ fs, f.length = 64
  fresh : ∀ x ∈ rl, x.1 < fs.length ∧ x.2.length = 64
theorem rcrs_ok {ch : List Int} {fs : List (List UInt8)} {rl : List Fr} (h : ROk fs rl) : ∀ i, (rcrs ch fs rl i).length = fs.length ∧ ∀ f ∈ rcrs ch fs rl i, f.length = 64
  | 0 => ⟨rfl, h.firm⟩
  | i + 1 => by
    obtain ⟨h1, h2⟩ := rcrs_ok (ch := ch) h i
    simp only [rcrs]
    cases hx : rl[i]? with
    | none => exact ⟨h1, h2⟩
    | some x =>
      obtain ⟨g1, g2⟩ := h.fresh x (List.mem_of_getElem? hx)
      refine ⟨by simp only [List.length_set]; exact h1, fun f hf => ?_⟩
      rcases List.mem_or_eq_of_mem_set hf with hf | hf
      · exact h2 f hf
      · obtain ⟨y, hy⟩ : ∃ y, (rcrs ch fs rl i)[x.1]? = some y := ⟨_, List.getElem?_eq_getElem (by omega)⟩
        have hyl := h2 y (List.mem_of_getElem? hy)
        rw [hf, List.getD_eq_getElem?_getD, hy, List.length_append, List.length_take, List.length_drop, Option.getD_some, g2, hyl]
        unfold cutc; omega
def cc1 (ch : List Int) (i : Nat) : Int := if ch.length = 0 then 0 else (ch.getD (i % ch.length) 0).tmod 66
def cc2 (c : Int) : Int := if c < 0 then c + 66 else c
def cc3 (c : Int) : Int := if 64 < c then 64 else c
theorem cc_all (ch : List Int) (i : Nat) : cc3 (cc2 (cc1 ch i)) = (cutc ch i : Int) := by
  unfold cc3 cc2 cc1 cutc Fc
  by_cases h : ch.length = 0
  · simp [h]
  · rw [if_neg h, if_neg h]
    have t1 : (ch.getD (i % ch.length) 0).tmod 66 < 66 := Int.tmod_lt_of_pos _ (by decide)
    have t2 : -66 < (ch.getD (i % ch.length) 0).tmod 66 := Int.lt_tmod_of_pos _ (by decide)
    generalize (ch.getD (i % ch.length) 0).tmod 66 = c at t1 t2 ⊢
    by_cases hc : c < 0
    · rw [if_pos hc]
      split <;> omega
    · rw [if_neg hc]
      split <;> omega
theorem cc1_b (ch : List Int) (i : Nat) : -66 < cc1 ch i ∧ cc1 ch i < 66 := by
  unfold cc1
  split
  · omega
  · exact ⟨Int.lt_tmod_of_pos _ (by decide), Int.tmod_lt_of_pos _ (by decide)⟩
set_option maxHeartbeats 1000000 in
theorem rcrash_ok (bd : Nat) (fv lv v : Value) (fs : List (List UInt8)) (rl : List Fr) (ch : List Int) (w : World) (hrl : rl.length ≤ 100000) (hok : ROk fs rl) (hv : ∀ w', Kept (ids (rdG bd fv lv fs rl)) w w' → RowAt w' v 1 ch.length (ivs ch)) (hl : ch.length ≤ 1000000) (hw : ∀ a ∈ ch, -9223372036854775808 ≤ a ∧ a ≤ 9223372036854775807)
    (ho : Owns w (rdG bd fv lv fs rl)) :
    Fx Try.prog 54 [ptr bd, v] w (Ret w (rdG bd fv lv fs rl) (fun _ : Unit => .tuple #[]) (fun _ => rdG bd fv (.slice none 0 0) (rcrs ch fs rl rl.length) []) (fun _ => True)) := by
  have hr : ∀ L : Heap, Rd w (ids (rdG bd fv lv fs rl)) L v 1 ch.length (ivs ch) := fun L w' _ hk' => hv w' hk'
  refine Fx.of Try.func54 rfl (by kernel_rfl) Try.ntmps54 rfl ho ?_
  refine XC.rdv (hr (rdG bd fv lv fs rl)) fun ac mc hva _ _ hac => ?_
  subst hva
  refine XC.rdv (.sl (m := fs.length) (.tail _ (.head _)) (by decide) (by simp)) fun ao m hva _ _ hao => ?_
  subst hva
  refine XC.rdv (.sl (m := rl.length) (.tail _ (.tail _ (.head _))) (by decide) (frcs_len rl).symm) fun ap mp hva _ _ hap => ?_
  subst hva
  refine go (k := ?_)
  refine XC.loop (α := Nat) (fun i => [(0, ptr bd), (1, .slice ac ch.length mc), (4, iv i)]) (fun i => rdG bd (.slice ao fs.length m) (.slice ap rl.length mp) (rcrs ch fs rl i) rl) (fun i => i ≤ rl.length) (fun i => rl.length - i) 0 [0, 1, 2] (Nat.zero_le _) ⟨rfl, rfl, rfl, trivial⟩ rfl rfl ?_
  intro i hi
  obtain ⟨hfl, hf64⟩ := rcrs_ok (ch := ch) hok i
  by_cases hlt : i < rl.length
  · obtain ⟨x, hx⟩ : ∃ x, rl[i]? = some x := ⟨_, List.getElem?_eq_getElem hlt⟩
    obtain ⟨g1, g2⟩ := hok.fresh x (List.mem_of_getElem? hx)
    refine go (k := ?_)
    refine XC.via (α := Unit) (fun _ => [(0, ptr bd), (1, .slice ac ch.length mc), (4, iv i), (5, iv (cc1 ch i))]) (fun _ => rdG bd (.slice ao fs.length m) (.slice ap rl.length mp) (rcrs ch fs rl i) rl) (fun _ => True) ?_ fun _ _ => ?_
    · by_cases hz : ch.length = 0
      · have e : cc1 ch i = 0 := by unfold cc1; rw [if_pos hz]
        rw [e]
        refine go (k := ?_)
        exact XE.mid () [0, 1, 2] trivial ⟨rfl, rfl, rfl, rfl, trivial⟩ rfl rfl
      · have hlt' : i % ch.length < ch.length := Nat.mod_lt _ (by omega)
        obtain ⟨a, ha⟩ : ∃ a, ch[i % ch.length]? = some a := ⟨_, List.getElem?_eq_getElem hlt'⟩
        have haw := hw a (List.mem_of_getElem? ha)
        have hd : ch.getD (i % ch.length) 0 = a := by rw [List.getD_eq_getElem?_getD, ha]; rfl
        obtain ⟨b1, o1, rfl⟩ : ∃ b off, ac = some ⟨b, off, none⟩ := hac.resolve_left (by omega)
        have hv1 : (ivs ch)[(i % ch.length) * 1]? = some (iv a) := by simp [ivs, ha]
        have e : cc1 ch i = a.tmod 66 := by unfold cc1; rw [if_neg hz, hd]
        rw [e]
        refine go (k := ?_)
        rw [show ((i : Int) % (ch.length : Int)) = ((i % ch.length : Nat) : Int) from by omega]
        refine go (k := ?_)
        refine XL.q (.ldRd rfl rfl rfl (hr _) (by omega) hv1) rfl ?_
        refine go (k := ?_)
        exact XE.mid () [0, 1, 2] trivial ⟨rfl, rfl, rfl, rfl, trivial⟩ rfl rfl
    have hb1 := cc1_b ch i
    obtain ⟨c1, hc1⟩ : ∃ c, c = cc1 ch i := ⟨_, rfl⟩
    have hca := cc_all ch i
    rw [← hc1] at hb1 hca ⊢
    clear hc1
    refine go (k := ?_)
    refine XC.via (α := Unit) (fun _ => [(0, ptr bd), (1, .slice ac ch.length mc), (4, iv i), (5, iv (cc2 c1))]) (fun _ => rdG bd (.slice ao fs.length m) (.slice ap rl.length mp) (rcrs ch fs rl i) rl) (fun _ => True) ?_ fun _ _ => ?_
    · by_cases hn : c1 < 0
      · have e : cc2 c1 = c1 + 66 := by unfold cc2; rw [if_pos hn]
        rw [e]
        refine go (k := ?_)
        exact XE.mid () [0, 1, 2] trivial ⟨rfl, rfl, rfl, rfl, trivial⟩ rfl rfl
      · have e : cc2 c1 = c1 := by unfold cc2; rw [if_neg hn]
        rw [e]
        refine go (k := ?_)
        exact XE.mid () [0, 1, 2] trivial ⟨rfl, rfl, rfl, rfl, trivial⟩ rfl rfl
    obtain ⟨c2, hc2⟩ : ∃ c, c = cc2 c1 := ⟨_, rfl⟩
    rw [← hc2] at hca ⊢
    clear hc2 hb1
    refine go (k := ?_)
    refine XC.via (α := Unit) (fun _ => [(0, ptr bd), (1, .slice ac ch.length mc), (4, iv i), (5, iv (cc3 c2))]) (fun _ => rdG bd (.slice ao fs.length m) (.slice ap rl.length mp) (rcrs ch fs rl i) rl) (fun _ => True) ?_ fun _ _ => ?_
    · by_cases hn : 64 < c2
      · have e : cc3 c2 = 64 := by unfold cc3; rw [if_pos hn]
        rw [e]
        refine go (k := ?_)
        exact XE.mid () [0, 1, 2] trivial ⟨rfl, rfl, rfl, rfl, trivial⟩ rfl rfl
      · have e : cc3 c2 = c2 := by unfold cc3; rw [if_neg hn]
        rw [e]
        refine go (k := ?_)
        exact XE.mid () [0, 1, 2] trivial ⟨rfl, rfl, rfl, rfl, trivial⟩ rfl rfl
    rw [hca]
    clear hca
    have hsn : rcrs ch fs rl (i + 1) = (rcrs ch fs rl i).set x.1 (x.2.take (cutc ch i) ++ ((rcrs ch fs rl i).getD x.1 []).drop (cutc ch i)) := by simp only [rcrs, hx]
    obtain ⟨y, hy⟩ : ∃ y, (rcrs ch fs rl i)[x.1]? = some y := ⟨_, List.getElem?_eq_getElem (by omega)⟩
    have hyl := hf64 y (List.mem_of_getElem? hy)
    rw [List.getD_eq_getElem?_getD, hy, Option.getD_some] at hsn
    have hcl : cutc ch i ≤ 64 := Nat.min_le_right _ _
    obtain ⟨c, hc⟩ : ∃ c, c = cutc ch i := ⟨_, rfl⟩
    obtain ⟨F, hF⟩ : ∃ F, F = rcrs ch fs rl i := ⟨_, rfl⟩
    rw [← hc] at hcl hsn ⊢
    rw [← hF] at hfl hf64 hsn hy ⊢
    clear hc hF
    have hcut : cut (frcs rl) (i * 2) 2 = some (frc x) := by
      rw [cut_some (by rw [frcs_len]; omega), ← frcs_drop, List.drop_eq_getElem_cons hlt, (List.getElem?_eq_some_iff.1 hx).2]
      rfl
    refine XC.openSl (m := F.length) (.tail _ (.head _)) (by decide) (by simp) (by omega) (fun _ _ => .there .here) fun b1 cs cap hv hc hcl' hct => ?_
    obtain ⟨rest, rfl⟩ : ∃ rest, cs = strs F ++ rest := ⟨cs.drop (strs F).length, by conv => lhs; rw [← List.take_append_drop (strs F).length cs, hct]⟩
    rw [hfl] at hv
    cases hv
    have hat : (strs F ++ rest)[x.1 * 1]? = some (str y) := by
      rw [show x.1 * 1 = x.1 by omega, List.getElem?_append_left (by simp; omega)]; simp [hy]
    have sp : SplL (strs F ++ rest) (x.1 * 1) [str (x.2.take c ++ y.drop c)] (strs (rcrs ch fs rl (i + 1)) ++ rest) := by
      have h1 := SplL.one (cs := strs F) (k := x.1 * 1) (str (x.2.take c ++ y.drop c)) (by simp; omega)
      rw [show (strs F).set (x.1 * 1) (str (x.2.take c ++ y.drop c)) = strs (rcrs ch fs rl (i + 1)) from by rw [hsn, show x.1 * 1 = x.1 by omega]; simp [strs, List.map_set]] at h1
      exact h1.right rest
    have hsl : (x.2.take c ++ y.drop c).length = 64 := by rw [List.length_append, List.length_take, List.length_drop]; omega
    have ht : (x.2.take c).length = c := by rw [List.length_take]; omega
    have hd : (y.drop c).length = 64 - c := by rw [List.length_drop, hyl]
    obtain ⟨b2, o2, rfl⟩ : ∃ b off, ap = some ⟨b, off, none⟩ := hap.resolve_left (by omega)
    refine go (k := ?_)
    refine XL.q (.ldRdN (j := i * 2) (k := 2) (m := rl.length) (xs := frcs rl) rfl rfl rfl rfl (.sl (.tail _ (.tail _ (.head _))) (by decide) (frcs_len rl).symm) (by omega) hcut) rfl ?_
    refine go (k := ?_)
    refine XL.alloc rfl rfl rfl fun ba => ?_
    refine XL.stS rfl rfl rfl (vs := frc x) (cs' := frc x) rfl rfl rfl (.head _) ⟨Nat.le_refl _, rfl⟩ .here ?_
    have ca0 : (frc x)[0 + 0]? = some (iv x.1) := rfl
    have ca1 : (frc x)[0 + 1]? = some (str x.2) := rfl
    refine go (k := ?_)
    refine XE.shutSl (m := fs.length) (cap := m) (k := 1) (xs := strs (rcrs ch fs rl (i + 1))) (b := b1) (.tail _ (.tail _ (.head _))) ?_ ?_ ?_ ?_ (.there (.there .here)) ?_
    · have := (rcrs_ok (ch := ch) hok (i + 1)).1; simp [this]
    · rw [← hfl]; exact hc
    · have := (rcrs_ok (ch := ch) hok (i + 1)).1
      simp only [List.length_append, List.length_map] at hcl' ⊢; omega
    · rw [List.take_left]
    exact XE.mid (i + 1) [1, 2, 3] ⟨by omega, by omega⟩ ⟨rfl, rfl, rfl, trivial⟩ rfl rfl
  · obtain rfl : i = rl.length := by omega
    refine go (k := ?_)
    refine XE.addNil 54 2 ?_
    exact XE.end0 () [1, 2, 0] rfl trivial rfl rfl rfl
end Go.X
