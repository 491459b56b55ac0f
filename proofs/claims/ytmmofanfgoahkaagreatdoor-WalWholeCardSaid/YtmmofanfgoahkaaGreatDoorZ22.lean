/- The reference of package device (revertref11): Crash. -/
import Derived.Test.YtmmofanfgoahkaaGreatDoorZ21
import Derived.Test.YtmmofanfgoahkaaGreatDoorZ16
namespace Go.X
open Go Go.Proofs
def cutc (ch : List Int) (i : Nat) : Nat := min (Fc ch i) 64
def rcrs (ch : List Int) (fs : List (List UInt8)) (rl : List Fr) : Nat → List (List UInt8)
  | 0 => fs
  | i + 1 => match rl[i]? with
    | some x => (rcrs ch fs rl i).set x.1 (x.2.take (cutc ch i) ++ ((rcrs ch fs rl i).getD x.1 []).drop (cutc ch i))
    | none => rcrs ch fs rl i
structure ROk (fs : List (List UInt8)) (rl : List Fr) : Prop where
  firm : ∀ f ∈ fs, f.length = 64
  fresh : ∀ x ∈ rl, x.1 < fs.length ∧ x.2.length = 64
theorem rcrs_ok {ch : List Int} {fs : List (List UInt8)} {rl : List Fr} (h : ROk fs rl) : ∀ i, (rcrs ch fs rl i).length = fs.length ∧ ∀ f ∈ rcrs ch fs rl i, f.length = 64
  | 0 => ⟨rfl, h.firm⟩
  | i + 1 => by
    obtain ⟨h1, h2⟩ := rcrs_ok (ch := ch) h i
    simp only [rcrs]
    cases hx : rl[i]? with
    | none => exact ⟨h1, h2⟩
    | some x =>
      obtain ⟨g1, g2⟩ := h.fresh x (List.mem_of_getElem? hx)
      refine ⟨by simp only [List.length_set]; exact h1, fun f hf => ?_⟩
      rcases List.mem_or_eq_of_mem_set hf with hf | hf
      · exact h2 f hf
      · obtain ⟨y, hy⟩ : ∃ y, (rcrs ch fs rl i)[x.1]? = some y := ⟨_, List.getElem?_eq_getElem (by omega)⟩
        have hyl := h2 y (List.mem_of_getElem? hy)
        rw [hf, List.getD_eq_getElem?_getD, hy, List.length_append, List.length_take, List.length_drop, Option.getD_some, g2, hyl]
        unfold cutc; omega
def cc1 (ch : List Int) (i : Nat) : Int := if ch.length = 0 then 0 else (ch.getD (i % ch.length) 0).tmod 66
def cc2 (c : Int) : Int := if c < 0 then c + 66 else c
def cc3 (c : Int) : Int := if 64 < c then 64 else c
theorem cc_all (ch : List Int) (i : Nat) : cc3 (cc2 (cc1 ch i)) = (cutc ch i : Int) := by
  unfold cc3 cc2 cc1 cutc Fc
  by_cases h : ch.length = 0
  · simp [h]
  · rw [if_neg h, if_neg h]
    have t1 : (ch.getD (i % ch.length) 0).tmod 66 < 66 := Int.tmod_lt_of_pos _ (by decide)
    have t2 : -66 < (ch.getD (i % ch.length) 0).tmod 66 := Int.lt_tmod_of_pos _ (by decide)
    generalize (ch.getD (i % ch.length) 0).tmod 66 = c at t1 t2 ⊢
    by_cases hc : c < 0
    · rw [if_pos hc]
      split <;> omega
    · rw [if_neg hc]
      split <;> omega
theorem cc1_b (ch : List Int) (i : Nat) : -66 < cc1 ch i ∧ cc1 ch i < 66 := by
  unfold cc1
  split
  · omega
  · exact ⟨Int.lt_tmod_of_pos _ (by decide), Int.tmod_lt_of_pos _ (by decide)⟩
set_option maxHeartbeats 1000000 in
theorem rcrash_ok (bd : Nat) (fv lv v : Value) (fs : List (List UInt8)) (rl : List Fr) (ch : List Int) (w : World) (hrl : rl.length ≤ 100000) (hok : ROk fs rl) (hv : ∀ w', Kept (ids (rdG bd fv lv fs rl)) w w' → RowAt w' v 1 ch.length (ivs ch)) (hl : ch.length ≤ 1000000) (hw : ∀ a ∈ ch, -9223372036854775808 ≤ a ∧ a ≤ 9223372036854775807)
    (ho : Owns w (rdG bd fv lv fs rl)) :
    Fx Tryz.prog 62 [ptr bd, v] w (Ret w (rdG bd fv lv fs rl) (fun _ : Unit => .tuple #[]) (fun _ => rdG bd fv (.slice none 0 0) (rcrs ch fs rl rl.length) []) (fun _ => True)) := by
  have hr : ∀ L : Heap, Rd w (ids (rdG bd fv lv fs rl)) L v 1 ch.length (ivs ch) := fun L w' _ hk' => hv w' hk'
  refine Fx.of Tryz.func62 rfl (by kernel_rfl) Tryz.ntmps62 rfl ho ?_
  refine XC.rdv (hr (rdG bd fv lv fs rl)) fun ac mc hva _ _ hac => ?_
  subst hva
  refine XC.rdv (.sl (m := fs.length) (.tail _ (.head _)) (by decide) (by simp)) fun ao m hva _ _ hao => ?_
  subst hva
  refine XC.rdv (.sl (m := rl.length) (.tail _ (.tail _ (.head _))) (by decide) (frcs_len rl).symm) fun ap mp hva _ _ hap => ?_
  subst hva
  refine go (k := ?_)
  refine XC.loop (α := Nat) (fun i => [(0, ptr bd), (1, .slice ac ch.length mc), (4, iv i)]) (fun i => rdG bd (.slice ao fs.length m) (.slice ap rl.length mp) (rcrs ch fs rl i) rl) (fun i => i ≤ rl.length) (fun i => rl.length - i) 0 [0, 1, 2] (Nat.zero_le _) ⟨rfl, rfl, rfl, trivial⟩ rfl rfl ?_
  intro i hi
  obtain ⟨hfl, hf64⟩ := rcrs_ok (ch := ch) hok i
  by_cases hlt : i < rl.length
  · obtain ⟨x, hx⟩ : ∃ x, rl[i]? = some x := ⟨_, List.getElem?_eq_getElem hlt⟩
    obtain ⟨g1, g2⟩ := hok.fresh x (List.mem_of_getElem? hx)
    refine go (k := ?_)
    refine XC.via (α := Unit) (fun _ => [(0, ptr bd), (1, .slice ac ch.length mc), (4, iv i), (5, iv (cc1 ch i))]) (fun _ => rdG bd (.slice ao fs.length m) (.slice ap rl.length mp) (rcrs ch fs rl i) rl) (fun _ => True) ?_ fun _ _ => ?_
    · by_cases hz : ch.length = 0
      · have e : cc1 ch i = 0 := by unfold cc1; rw [if_pos hz]
        rw [e]
        refine go (k := ?_)
        exact XE.mid () [0, 1, 2] trivial ⟨rfl, rfl, rfl, rfl, trivial⟩ rfl rfl
      · have hlt' : i % ch.length < ch.length := Nat.mod_lt _ (by omega)
        obtain ⟨a, ha⟩ : ∃ a, ch[i % ch.length]? = some a := ⟨_, List.getElem?_eq_getElem hlt'⟩
        have haw := hw a (List.mem_of_getElem? ha)
        have hd : ch.getD (i % ch.length) 0 = a := by rw [List.getD_eq_getElem?_getD, ha]; rfl
        obtain ⟨b1, o1, rfl⟩ : ∃ b off, ac = some ⟨b, off, none⟩ := hac.resolve_left (by omega)
        have hv1 : (ivs ch)[(i % ch.length) * 1]? = some (iv a) := by simp [ivs, ha]
        have e : cc1 ch i = a.tmod 66 := by unfold cc1; rw [if_neg hz, hd]
        rw [e]
        refine go (k := ?_)
        rw [show ((i : Int) % (ch.length : Int)) = ((i % ch.length : Nat) : Int) from by omega]
        refine go (k := ?_)
        refine XL.q (.ldRd rfl rfl rfl (hr _) (by omega) hv1) rfl ?_
        refine go (k := ?_)
        exact XE.mid () [0, 1, 2] trivial ⟨rfl, rfl, rfl, rfl, trivial⟩ rfl rfl
    have hb1 := cc1_b ch i
    obtain ⟨c1, hc1⟩ : ∃ c, c = cc1 ch i := ⟨_, rfl⟩
    have hca := cc_all ch i
    rw [← hc1] at hb1 hca ⊢
    clear hc1
    refine go (k := ?_)
    refine XC.via (α := Unit) (fun _ => [(0, ptr bd), (1, .slice ac ch.length mc), (4, iv i), (5, iv (cc2 c1))]) (fun _ => rdG bd (.slice ao fs.length m) (.slice ap rl.length mp) (rcrs ch fs rl i) rl) (fun _ => True) ?_ fun _ _ => ?_
    · by_cases hn : c1 < 0
      · have e : cc2 c1 = c1 + 66 := by unfold cc2; rw [if_pos hn]
        rw [e]
        refine go (k := ?_)
        exact XE.mid () [0, 1, 2] trivial ⟨rfl, rfl, rfl, rfl, trivial⟩ rfl rfl
      · have e : cc2 c1 = c1 := by unfold cc2; rw [if_neg hn]
        rw [e]
        refine go (k := ?_)
        exact XE.mid () [0, 1, 2] trivial ⟨rfl, rfl, rfl, rfl, trivial⟩ rfl rfl
    obtain ⟨c2, hc2⟩ : ∃ c, c = cc2 c1 := ⟨_, rfl⟩
    rw [← hc2] at hca ⊢
    clear hc2 hb1
    refine go (k := ?_)
    refine XC.via (α := Unit) (fun _ => [(0, ptr bd), (1, .slice ac ch.length mc), (4, iv i), (5, iv (cc3 c2))]) (fun _ => rdG bd (.slice ao fs.length m) (.slice ap rl.length mp) (rcrs ch fs rl i) rl) (fun _ => True) ?_ fun _ _ => ?_
    · by_cases hn : 64 < c2
      · have e : cc3 c2 = 64 := by unfold cc3; rw [if_pos hn]
        rw [e]
        refine go (k := ?_)
        exact XE.mid () [0, 1, 2] trivial ⟨rfl, rfl, rfl, rfl, trivial⟩ rfl rfl
      · have e : cc3 c2 = c2 := by unfold cc3; rw [if_neg hn]
        rw [e]
        refine go (k := ?_)
        exact XE.mid () [0, 1, 2] trivial ⟨rfl, rfl, rfl, rfl, trivial⟩ rfl rfl
    rw [hca]
    clear hca
    have hsn : rcrs ch fs rl (i + 1) = (rcrs ch fs rl i).set x.1 (x.2.take (cutc ch i) ++ ((rcrs ch fs rl i).getD x.1 []).drop (cutc ch i)) := by simp only [rcrs, hx]
    obtain ⟨y, hy⟩ : ∃ y, (rcrs ch fs rl i)[x.1]? = some y := ⟨_, List.getElem?_eq_getElem (by omega)⟩
    have hyl := hf64 y (List.mem_of_getElem? hy)
    rw [List.getD_eq_getElem?_getD, hy, Option.getD_some] at hsn
    have hcl : cutc ch i ≤ 64 := Nat.min_le_right _ _
    obtain ⟨c, hc⟩ : ∃ c, c = cutc ch i := ⟨_, rfl⟩
    obtain ⟨F, hF⟩ : ∃ F, F = rcrs ch fs rl i := ⟨_, rfl⟩
    rw [← hc] at hcl hsn ⊢
    rw [← hF] at hfl hf64 hsn hy ⊢
    clear hc hF
    have hcut : cut (frcs rl) (i * 2) 2 = some (frc x) := by
      rw [cut_some (by rw [frcs_len]; omega), ← frcs_drop, List.drop_eq_getElem_cons hlt, (List.getElem?_eq_some_iff.1 hx).2]
      rfl
    refine XC.openSl (m := F.length) (.tail _ (.head _)) (by decide) (by simp) (by omega) (fun _ _ => .there .here) fun b1 cs cap hv hc hcl' hct => ?_
    obtain ⟨rest, rfl⟩ : ∃ rest, cs = strs F ++ rest := ⟨cs.drop (strs F).length, by conv => lhs; rw [← List.take_append_drop (strs F).length cs, hct]⟩
    rw [hfl] at hv
    cases hv
    have hat : (strs F ++ rest)[x.1 * 1]? = some (str y) := by
      rw [show x.1 * 1 = x.1 by omega, List.getElem?_append_left (by simp; omega)]; simp [hy]
    have sp : SplL (strs F ++ rest) (x.1 * 1) [str (x.2.take c ++ y.drop c)] (strs (rcrs ch fs rl (i + 1)) ++ rest) := by
      have h1 := SplL.one (cs := strs F) (k := x.1 * 1) (str (x.2.take c ++ y.drop c)) (by simp; omega)
      rw [show (strs F).set (x.1 * 1) (str (x.2.take c ++ y.drop c)) = strs (rcrs ch fs rl (i + 1)) from by rw [hsn, show x.1 * 1 = x.1 by omega]; simp [strs, List.map_set]] at h1
      exact h1.right rest
    have hsl : (x.2.take c ++ y.drop c).length = 64 := by rw [List.length_append, List.length_take, List.length_drop]; omega
    have ht : (x.2.take c).length = c := by rw [List.length_take]; omega
    have hd : (y.drop c).length = 64 - c := by rw [List.length_drop, hyl]
    obtain ⟨b2, o2, rfl⟩ : ∃ b off, ap = some ⟨b, off, none⟩ := hap.resolve_left (by omega)
    refine go (k := ?_)
    refine XL.q (.ldRdN (j := i * 2) (k := 2) (m := rl.length) (xs := frcs rl) rfl rfl rfl rfl (.sl (.tail _ (.tail _ (.head _))) (by decide) (frcs_len rl).symm) (by omega) hcut) rfl ?_
    refine go (k := ?_)
    refine XL.alloc rfl rfl rfl fun ba => ?_
    refine XL.stS rfl rfl rfl (vs := frc x) (cs' := frc x) rfl rfl rfl (.head _) ⟨Nat.le_refl _, rfl⟩ .here ?_
    have ca0 : (frc x)[0 + 0]? = some (iv x.1) := rfl
    have ca1 : (frc x)[0 + 1]? = some (str x.2) := rfl
    refine go (k := ?_)
    refine XE.shutSl (m := fs.length) (cap := m) (k := 1) (xs := strs (rcrs ch fs rl (i + 1))) (b := b1) (.tail _ (.tail _ (.head _))) ?_ ?_ ?_ ?_ (.there (.there .here)) ?_
    · have := (rcrs_ok (ch := ch) hok (i + 1)).1; simp [this]
    · rw [← hfl]; exact hc
    · have := (rcrs_ok (ch := ch) hok (i + 1)).1
      simp only [List.length_append, List.length_map] at hcl' ⊢; omega
    · rw [List.take_left]
    exact XE.mid (i + 1) [1, 2, 3] ⟨by omega, by omega⟩ ⟨rfl, rfl, rfl, trivial⟩ rfl rfl
  · obtain rfl : i = rl.length := by omega
    refine go (k := ?_)
    refine XE.addNil 154 2 ?_
    exact XE.end0 () [1, 2, 0] rfl trivial rfl rfl rfl
end Go.X
/- The reference of package device (revertref11): Flush, New, Copy. -/
namespace Go.X
open Go Go.Proofs
theorem rflush_ok (bd : Nat) (fv lv : Value) (fs : List (List UInt8)) (rl : List Fr) (w : World) (hrl : rl.length ≤ 100000) (hok : ROk fs rl) (ho : Owns w (rdG bd fv lv fs rl)) :
    Fx Tryz.prog 82 [ptr bd] w (Ret w (rdG bd fv lv fs rl) (fun _ : Unit => iv rl.length) (fun _ => rdG bd fv (.slice none 0 0) (rcrs [64] fs rl rl.length) []) (fun _ => True)) := by
  refine Fx.of Tryz.func82 rfl (by kernel_rfl) Tryz.ntmps82 rfl ho ?_
  refine XC.rdv (.sl (m := rl.length) (.tail _ (.tail _ (.head _))) (by decide) (frcs_len rl).symm) fun ap mp hva _ _ hap => ?_
  subst hva
  refine go (k := ?_)
  refine XL.make (.bslice rfl rfl rfl rfl rfl rfl) rfl fun _ _ hb => ?_
  obtain ⟨bs, rfl, rfl⟩ := hb
  refine go (k := ?_)
  refine XL.call [1, 2, 3] [0] rfl rfl rfl rfl rfl (fun _ w1 hs ho => rcrash_ok bd fv _ _ fs rl [64] w1 hrl hok (fun w' hk' => (Rd.blk (L := [.blk bs [iv 64] 3]) (w0 := w1) (B := ids (rdG bd fv (.slice ap rl.length mp) fs rl)) (.head _) rfl (Nat.le_refl _) rfl : Rd _ _ _ _ 1 1 (ivs [64])) w' ((Owns.left (L := [.blk bs [iv 64] 3]) (M := rdG bd fv (.slice ap rl.length mp) fs rl) hs.own).of_kept hk' (fun x hx h => Owns.apart (L := [.blk bs [iv 64] 3]) (M := rdG bd fv (.slice ap rl.length mp) fs rl) hs.own x hx h)) hk') (by decide) (fun a ha => by rw [List.mem_singleton.1 ha]; omega) ho) fun _ _ => ?_
  refine XL.nm ?_
  refine go (k := ?_)
  exact XE.ret1 () [0, 1, 2] rfl rfl trivial rfl rfl rfl
theorem XD.tail3 {P : Program} {r : Option Nat} {w0 : World} {B : List Nat} {n : Nat} {Q : Post} {e : Env} {ds : List Deferred} {L : Heap} {ops : Array Oper} {l : List Oper} {s s' s'' : Nat} {Φ Φ' Φ'' : Value → Heap → Prop} (hl : Nat.ble l.length ops.size = true) (hc : drawOk ops (ops.size - l.length) = true)
    (h : ∀ v H, Φ v H → ∀ v' H', Φ' v' H' → ∀ v'' H'', Φ'' v'' H'' → XL P r w0 B n ops l Q ((s'', v'') :: (s', v') :: (s, v) :: e) ds (H'' ++ (H' ++ (H ++ L)))) : XD P r w0 B n ops l Q e ds L [(s, Φ), (s', Φ'), (s'', Φ'')] none := by
  obtain ⟨h1, h2, h3, h4⟩ := drawOk_parts hc (Nat.sub_le _ _)
  exact .toR h1 h2 h3 fun v H hφ v' H' hφ' v'' H'' hφ'' => .tail (tail_range h4 (Nat.le_of_ble_eq_true hl)) (h v H hφ v' H' hφ' v'' H'' hφ'')
theorem hcutz : cut (zerosL (Value.int IntKind.u8 0).cells.toList 64) 0 (bcells (zbytes 64)).length = some (bcells (zbytes 64)) := by
  rw [zeros_bytes, cut_some (by omega), List.drop_zero, List.take_length]
set_option maxHeartbeats 1000000 in
theorem rnew_ok (n : Nat) (w : World) (hn : n ≤ 100000) :
    Fx Tryz.prog 10 [iv n] w (Ret w [] (fun x : Nat × Value => ptr x.1) (fun x => rdG x.1 x.2 (.slice none 0 0) (List.replicate n (zbytes 64)) []) (fun _ => True)) := by
  refine Fx.of (L0 := []) Tryz.func10 rfl (by kernel_rfl) Tryz.ntmps10 rfl (Owns.nil w) ?_
  refine go (k := ?_)
  refine XL.box rfl rfl rfl fun bd => ?_
  refine go (k := ?_)
  refine XC.addNil 9 1 ?_
  refine XC.loop (α := Nat × Value) (fun x => [(0, iv n), (3, ptr bd), (4, iv x.1)]) (fun x => [.blk bd [x.2, .slice none 0 0] 87, .sl x.2 9 1 (strs (List.replicate x.1 (zbytes 64)))]) (fun x => x.1 ≤ n) (fun x => n - x.1) (0, .slice none 0 0) [1, 0] (Nat.zero_le _) ⟨rfl, rfl, rfl, trivial⟩ rfl rfl ?_
  rintro ⟨i, fv⟩ hi
  simp only at hi ⊢
  by_cases hlt : i < n
  · refine XC.rdv (.sl (m := i) (.tail _ (.head _)) (by decide) (by simp)) fun ao m hva _ _ hao => ?_
    subst hva
    refine goD (k := ?_)
    refine XC.pk [1, 0] rfl rfl ?_
    refine XC.drawM (C0 := [.sl (.slice ao i m) 9 1 (strs (List.replicate i (zbytes 64)))]) (L := [.blk bd [.slice ao i m, .slice none 0 0] 87]) Tab.mix ?_
    refine go (k := ?_)
    refine XD.make (.mslice (len := 64) (cap := 64) rfl rfl rfl rfl rfl (Nat.le_refl _) (by decide) (by decide)) rfl rfl ?_
    refine XD.look (v := str (zbytes 64)) (.head _) rfl (fun u H hu => ?_) rfl ?_
    · obtain ⟨mb, rfl, rfl⟩ := hu
      exact .bytesStr (m := 64) (l := zbytes 64) rfl rfl rfl rfl (.blk (.head _) (by rw [bcells_len, zbytes_len]) (Nat.le_refl _) hcutz)
    refine go (k := ?_)
    refine XD.make (.bslice rfl rfl rfl rfl rfl rfl) rfl rfl ?_
    refine XD.mutLook (Φ := fun v' H => H = [.sl v' 9 1 (strs (List.replicate i (zbytes 64)) ++ strs [zbytes 64])]) (.head _) rfl (fun u H hu => ?_) rfl rfl ?_
    · obtain ⟨b1, rfl, rfl⟩ := hu
      exact .app rfl rfl rfl rfl rfl rfl (by decide) (.blk (.head _) rfl (Nat.le_refl _) rfl) rfl (by simp; omega) (by simp; omega)
    refine go (k := ?_)
    refine XD.tail3 rfl (by decide +kernel) fun v' H hH u H' hu u2 H2 hu2 => ?_
    subst hH
    obtain ⟨b1, rfl, rfl⟩ := hu
    obtain ⟨b2, rfl, rfl⟩ := hu2
    have hsn : strs (List.replicate i (zbytes 64)) ++ strs [zbytes 64] = strs (List.replicate (i + 1) (zbytes 64)) := by rw [List.replicate_succ', strs, strs, strs, List.map_append]
    rw [hsn]
    refine XL.slv (.tail _ (.tail _ (.head _))) fun ao' q' m' hv' _ _ => ?_
    subst hv'
    refine XL.stS rfl rfl rfl rfl rfl rfl (.tail _ (.tail _ (.tail _ (.head _)))) (SplL.one _ (show 0 < 2 from Nat.zero_lt_succ 1)) (.there (.there (.there .here))) ?_
    refine go (k := ?_)
    exact XE.mid (i + 1, .slice ao' q' m') [3, 2] ⟨show i + 1 ≤ n by omega, show n - (i + 1) < n - i by omega⟩ ⟨rfl, rfl, rfl, trivial⟩ rfl rfl
  · obtain rfl : i = n := by omega
    refine go (k := ?_)
    refine XE.addNil 154 2 ?_
    exact XE.ret1 (bd, fv) [1, 2, 0] rfl rfl trivial rfl rfl rfl
theorem strs_one (l : List (List UInt8)) : (strs l).all Value.oneCell' = true := by simp [strs, Value.oneCell']
end Go.X
/- The reference of package device against the slots. -/
namespace Go.X
open Go Go.Proofs
def frl : List Slot → Nat → List Fr
  | [], _ => []
  | s :: ds, i => if s.fresh = true then (i, s.read) :: frl ds (i + 1) else frl ds (i + 1)
theorem frl_ge : ∀ (ds : List Slot) (i : Nat) (x : Fr), x ∈ frl ds i → i ≤ x.1 ∧ x.1 < i + ds.length
  | [], _, _, h => by simp [frl] at h
  | s :: ds, i, x, h => by
    unfold frl at h
    have := frl_ge ds (i + 1) x
    rw [List.length_cons]
    split at h
    · rcases List.mem_cons.1 h with rfl | h
      · exact ⟨Nat.le_refl _, by simp only; omega⟩
      · have := this h; omega
    · have := this h; omega
theorem nF_cons (s : Slot) (ds : List Slot) (k : Nat) : nF (s :: ds) (k + 1) = (if s.fresh = true then 1 else 0) + nF ds k := by
  unfold nF
  rw [List.take_succ_cons]
  cases hf : s.fresh
  · simp [hf]
  · simp [hf, Nat.add_comm]
theorem frl_plc : ∀ (ds : List Slot) (i k : Nat), plc (frl ds i) (i + k) = nF ds k
  | [], i, k => by simp [frl, plc, nF]
  | s :: ds, i, 0 => by
    have h : ∀ x ∈ frl (s :: ds) i, ¬ x.1 < i := fun x hx => by have := frl_ge (s :: ds) i x hx; omega
    show plc (frl (s :: ds) i) i = nF (s :: ds) 0
    generalize frl (s :: ds) i = l at h
    unfold plc nF
    cases l with
    | nil => rfl
    | cons y l => rw [List.takeWhile_cons_of_neg (by simpa using h y (.head _))]; rfl
  | s :: ds, i, k + 1 => by
    have ih := frl_plc ds (i + 1) k
    rw [nF_cons, show i + (k + 1) = i + 1 + k by omega]
    unfold frl
    split
    · unfold plc at ih ⊢
      rw [List.takeWhile_cons_of_pos (by simp; omega), List.length_cons, ih]; omega
    · rw [ih]; omega
theorem frl_at : ∀ (ds : List Slot) (i k : Nat) (s : Slot), ds[k]? = some s → s.fresh = true → (frl ds i)[nF ds k]? = some (i + k, s.read)
  | [], _, _, _, h, _ => by simp at h
  | t :: ds, i, 0, s, h, hf => by
    simp at h; subst h
    unfold frl nF; simp [hf]
  | t :: ds, i, k + 1, s, h, hf => by
    have ih := frl_at ds (i + 1) k s (by simpa using h) hf
    rw [nF_cons, show i + (k + 1) = i + 1 + k by omega]
    unfold frl
    split
    · rw [Nat.add_comm 1, List.getElem?_cons_succ]; exact ih
    · rw [Nat.zero_add]; exact ih
theorem frl_mem : ∀ (ds : List Slot) (i k : Nat) (s : Slot) (x : Fr), ds[k]? = some s → x ∈ frl ds i → x.1 = i + k → s.fresh = true
  | [], _, _, _, _, h, _, _ => by simp at h
  | t :: ds, i, 0, s, x, h, hx, he => by
    simp at h; subst h
    unfold frl at hx
    split at hx
    · assumption
    · have := frl_ge ds (i + 1) x hx; omega
  | t :: ds, i, k + 1, s, x, h, hx, he => by
    have ih := fun hx => frl_mem ds (i + 1) k s x (by simpa using h) hx (by omega)
    unfold frl at hx
    split at hx
    · rcases List.mem_cons.1 hx with rfl | hx
      · simp only at he; omega
      · exact ih hx
    · exact ih hx
theorem frl_isp (ds : List Slot) (k : Nat) (s : Slot) (h : ds[k]? = some s) : isp (frl ds 0) k = s.fresh := by
  have hp := frl_plc ds 0 k
  rw [Nat.zero_add] at hp
  unfold isp
  rw [hp]
  cases hf : s.fresh with
  | true =>
    have := frl_at ds 0 k s h hf
    rw [Nat.zero_add] at this
    rw [this]; simp
  | false =>
    cases hx : (frl ds 0)[nF ds k]? with
    | none => rfl
    | some x =>
      simp only [decide_eq_false_iff_not]
      intro he
      have := frl_mem ds 0 k s x h (List.mem_of_getElem? hx) (by omega)
      rw [hf] at this; cases this
theorem frl_len : ∀ (ds : List Slot) (i : Nat), (frl ds i).length = nF ds ds.length
  | [], _ => rfl
  | s :: ds, i => by
    rw [List.length_cons, nF_cons]
    unfold frl
    split
    · rw [List.length_cons, frl_len ds (i + 1)]; omega
    · rw [frl_len ds (i + 1)]; omega
theorem frl_set : ∀ (ds : List Slot) (i k : Nat) (s : Slot) (t : Slot), ds[k]? = some s → t.fresh = true →
    frl (ds.set k t) i = (frl ds i).take (nF ds k) ++ [(i + k, t.read)] ++ (frl ds i).drop (if s.fresh = true then nF ds k + 1 else nF ds k)
  | [], _, _, _, _, h, _ => by simp at h
  | u :: ds, i, 0, s, t, h, ht => by
    simp at h; subst h
    cases hf : u.fresh <;> simp [frl, nF, hf, ht]
  | u :: ds, i, k + 1, s, t, h, ht => by
    have ih := frl_set ds (i + 1) k s t (by simpa using h) ht
    rw [List.set_cons_succ, nF_cons]
    unfold frl
    rw [ih, show i + 1 + k = i + (k + 1) by omega]
    by_cases hu : u.fresh = true
    · simp only [if_pos hu]
      by_cases hs : s.fresh = true
      · simp only [if_pos hs, Nat.add_comm 1, List.take_succ_cons, List.drop_succ_cons, List.cons_append]
      · simp only [if_neg hs, Nat.add_comm 1, List.take_succ_cons, List.drop_succ_cons, List.cons_append]
    · simp only [if_neg hu, Nat.zero_add]
theorem frl_rwr (ds : List Slot) (k : Nat) (s : Slot) (t : List UInt8) (h : ds[k]? = some s) : rwr (frl ds 0) k t = frl (ds.set k ⟨s.firm, padTo t, true⟩) 0 := by
  have hp := frl_plc ds 0 k
  rw [Nat.zero_add] at hp
  have hs := frl_set ds 0 k s ⟨s.firm, padTo t, true⟩ h rfl
  rw [Nat.zero_add] at hs
  unfold rwr
  rw [hp, frl_isp ds k s h, hs]
theorem firm_set (ds : List Slot) (k : Nat) (s : Slot) (t : List UInt8) (h : ds[k]? = some s) : (ds.set k ⟨s.firm, padTo t, true⟩).map (·.firm) = ds.map (·.firm) := by
  rw [List.map_set]
  apply List.ext_getElem?
  intro i
  by_cases e : k = i
  · subst e
    rw [List.getElem?_set_self (by rw [List.length_map]; exact (List.getElem?_eq_some_iff.1 h).1), List.getElem?_map, h]; rfl
  · rw [List.getElem?_set_ne e]
theorem frl_rrd (ds : List Slot) (k : Nat) (s : Slot) (hd : DInv ds) (h : ds[k]? = some s) : rrd (ds.map (·.firm)) (frl ds 0) k = s.read := by
  have hp := frl_plc ds 0 k
  rw [Nat.zero_add] at hp
  unfold rrd
  rw [frl_isp ds k s h, hp]
  cases hf : s.fresh with
  | true =>
    have := frl_at ds 0 k s h hf
    rw [if_pos rfl, List.getD_eq_getElem?_getD, this]; rfl
  | false =>
    rw [if_neg (by decide), List.getD_eq_getElem?_getD, List.getElem?_map, h]
    exact (hd s (List.mem_of_getElem? h) hf).symm
theorem frl_rok (ds : List Slot) (hk : Oks ds) : ROk (ds.map (·.firm)) (frl ds 0) := by
  refine ⟨fun f hf => ?_, fun x hx => ?_⟩
  · obtain ⟨s, hs, rfl⟩ := List.mem_map.1 hf
    exact (hk s hs).1
  · have h1 := frl_ge ds 0 x hx
    rw [List.length_map]
    refine ⟨by omega, ?_⟩
    have hg : ∀ (ds : List Slot) (i : Nat), Oks ds → ∀ x ∈ frl ds i, x.2.length = 64 := by
      intro ds
      induction ds with
      | nil => intro i _ x hx; simp [frl] at hx
      | cons s ds ih =>
        intro i hk x hx
        unfold frl at hx
        split at hx
        · rcases List.mem_cons.1 hx with rfl | hx
          · exact (hk s (.head _)).2
          · exact ih (i + 1) (fun y hy => hk y (.tail _ hy)) x hx
        · exact ih (i + 1) (fun y hy => hk y (.tail _ hy)) x hx
    exact hg ds 0 hk x hx
theorem frl_nF : ∀ (ds : List Slot) (i j : Nat) (x : Fr), (frl ds i)[j]? = some x → nF ds (x.1 - i) = j
  | [], _, _, _, h => by simp [frl] at h
  | s :: ds, i, j, x, h => by
    unfold frl at h
    split at h
    · rename_i hf
      cases j with
      | zero =>
        simp at h; subst h
        simp [nF]
      | succ j =>
        have h' : (frl ds (i + 1))[j]? = some x := by simpa using h
        have hg := (frl_ge ds (i + 1) x (List.mem_of_getElem? h')).1
        have ih := frl_nF ds (i + 1) j x h'
        rw [show x.1 - i = (x.1 - (i + 1)) + 1 by omega, nF_cons, if_pos hf, ih, Nat.add_comm]
    · rename_i hf
      have hg := (frl_ge ds (i + 1) x (List.mem_of_getElem? h)).1
      have ih := frl_nF ds (i + 1) j x h
      rw [show x.1 - i = (x.1 - (i + 1)) + 1 by omega, nF_cons, if_neg hf, ih, Nat.zero_add]
/-- the firm bytes when the first j fresh slots are settled -/
theorem rcrs_at (ch : List Int) (ds : List Slot) (hk : Oks ds) : ∀ j, j ≤ (frl ds 0).length → ∀ i s, ds[i]? = some s → (rcrs ch (ds.map (·.firm)) (frl ds 0) j)[i]? = some (if s.fresh = true ∧ nF ds i < j then torn (Fc ch) (nF ds i) s else s.firm)
  | 0, _, i, s, h => by
    rw [if_neg (by omega)]
    show (ds.map (·.firm))[i]? = _
    rw [List.getElem?_map, h]; rfl
  | j + 1, hj, i, s, h => by
    have ih := rcrs_at ch ds hk j (by omega)
    obtain ⟨x, hx⟩ : ∃ x, (frl ds 0)[j]? = some x := ⟨_, List.getElem?_eq_getElem (by omega)⟩
    have hxm := List.mem_of_getElem? hx
    have hlt := (frl_ge ds 0 x hxm).2
    obtain ⟨u, hu⟩ : ∃ u, ds[x.1]? = some u := ⟨_, List.getElem?_eq_getElem (by omega)⟩
    have huf := frl_mem ds 0 x.1 u x hu hxm (by omega)
    have hn : nF ds x.1 = j := frl_nF ds 0 j x hx
    have hxr := frl_at ds 0 x.1 u hu huf
    rw [hn, hx] at hxr
    have hxr2 : x.2 = u.read := congrArg Prod.snd (Option.some.inj hxr)
    have hiu := rcrs_at ch ds hk j (by omega) x.1 u hu
    rw [if_neg (by omega)] at hiu
    simp only [rcrs, hx]
    rw [List.getD_eq_getElem?_getD, hiu, Option.getD_some]
    by_cases e : x.1 = i
    · subst e
      obtain rfl : u = s := Option.some.inj (hu.symm.trans h)
      rw [List.getElem?_set_self ((List.getElem?_eq_some_iff.1 hiu).1), if_pos ⟨huf, by omega⟩, hn, hxr2]
      rfl
    · rw [List.getElem?_set_ne e, ih i s h]
      have : (s.fresh = true ∧ nF ds i < j) ↔ (s.fresh = true ∧ nF ds i < j + 1) := by
        refine ⟨fun h => ⟨h.1, by omega⟩, fun h' => ⟨h'.1, ?_⟩⟩
        by_cases ej : nF ds i = j
        · have := frl_at ds 0 i s h h'.1
          rw [ej, hx] at this
          have := congrArg Prod.fst (Option.some.inj this)
          simp only at this; omega
        · omega
      rw [show (if s.fresh = true ∧ nF ds i < j then torn (Fc ch) (nF ds i) s else s.firm) = (if s.fresh = true ∧ nF ds i < j + 1 then torn (Fc ch) (nF ds i) s else s.firm) from by
        by_cases hc : s.fresh = true ∧ nF ds i < j
        · rw [if_pos hc, if_pos (this.1 hc)]
        · rw [if_neg hc, if_neg (fun h => hc (this.2 h))]]
theorem rcrs_all (ch : List Int) (ds : List Slot) (hk : Oks ds) : rcrs ch (ds.map (·.firm)) (frl ds 0) (frl ds 0).length = (settled (Fc ch) ds).map (·.firm) := by
  apply List.ext_getElem?
  intro i
  cases h : ds[i]? with
  | none =>
    have hl := (List.getElem?_eq_none_iff.1 h)
    have hr := (rcrs_ok (ch := ch) (frl_rok ds hk) (frl ds 0).length).1
    rw [List.length_map] at hr
    rw [List.getElem?_eq_none (by omega), List.getElem?_eq_none (by rw [List.length_map, settled_len]; omega)]
  | some s =>
    rw [rcrs_at ch ds hk _ (Nat.le_refl _) i s h, List.getElem?_map, settled_at, h]
    cases hf : s.fresh with
    | true =>
      have := (List.getElem?_eq_some_iff.1 (frl_at ds 0 i s h hf)).1
      rw [if_pos ⟨rfl, this⟩]; simp [hf]
    | false => simp [hf]
theorem frl_settled (F : Nat → Nat) (ds : List Slot) : ∀ i, frl (settled F ds) i = [] := by
  have h : ∀ s ∈ settled F ds, s.fresh = false := settled_nf
  generalize settled F ds = l at h
  induction l with
  | nil => intro i; rfl
  | cons s l ih =>
    intro i
    unfold frl
    rw [if_neg (by rw [h s (.head _)]; decide)]
    exact ih (fun x hx => h x (.tail _ hx)) (i + 1)
end Go.X
/- DevicePlays: the law's helpers May, one, alike. -/
namespace Go.X
open Go Go.Proofs
abbrev rdE (bd : Nat) (fv rv : Value) (ds : List Slot) : Ent := grp (rdG bd fv rv (ds.map (·.firm)) (frl ds 0))
end Go.X
/- DevicePlays: one. -/
namespace Go.X
open Go Go.Proofs
theorem Fc64 : Fc [64] = F64 := by
  funext i
  unfold Fc
  have : i % [(64 : Int)].length = 0 := by simp [Nat.mod_one]
  rw [this]
  rfl
theorem rdflush_ok (bd : Nat) (fv rv : Value) (ds : List Slot) (w : World) (hk : Oks ds) (hn : ds.length ≤ 100000) (ho : Owns w [rdE bd fv rv ds]) :
    Fx Tryz.prog 82 [ptr bd] w (Ret w [rdE bd fv rv ds] (fun _ : Unit => iv (nF ds ds.length)) (fun _ => [rdE bd fv (.slice none 0 0) (settled F64 ds)]) (fun _ => True)) := by
  have hfl : (frl ds 0).length ≤ 100000 := by rw [frl_len]; unfold nF; exact Nat.le_trans (List.length_filter_le _ _) (by rw [List.length_take]; omega)
  have h := rcrs_all [64] ds hk
  rw [Fc64] at h
  have hg := Fx.grp (fun ho => rflush_ok bd fv rv (ds.map (·.firm)) (frl ds 0) w hfl (frl_rok ds hk) ho) ho
  rw [h, frl_len] at hg
  show Fx _ _ _ _ (Ret w [rdE bd fv rv ds] _ (fun _ => [grp (rdG bd fv (.slice none 0 0) ((settled F64 ds).map (·.firm)) (frl (settled F64 ds) 0))]) _)
  rw [frl_settled]
  exact hg
theorem rdcrash_ok (bd : Nat) (fv rv v : Value) (ds : List Slot) (ch : List Int) (w : World) (hk : Oks ds) (hn : ds.length ≤ 100000) (hv : ∀ w', Kept (ids [rdE bd fv rv ds]) w w' → RowAt w' v 1 ch.length (ivs ch)) (hl : ch.length ≤ 1000000) (hw : ∀ a ∈ ch, -9223372036854775808 ≤ a ∧ a ≤ 9223372036854775807) (ho : Owns w [rdE bd fv rv ds]) :
    Fx Tryz.prog 62 [ptr bd, v] w (Ret w [rdE bd fv rv ds] (fun _ : Unit => .tuple #[]) (fun _ => [rdE bd fv (.slice none 0 0) (settled (Fc ch) ds)]) (fun _ => True)) := by
  have hfl : (frl ds 0).length ≤ 100000 := by rw [frl_len]; unfold nF; exact Nat.le_trans (List.length_filter_le _ _) (by rw [List.length_take]; omega)
  have h := rcrs_all ch ds hk
  have hg := Fx.grp (fun ho => rcrash_ok bd fv rv v (ds.map (·.firm)) (frl ds 0) ch w hfl (frl_rok ds hk) (fun w' hk' => hv w' (by rw [ids_grp1]; exact hk')) hl hw ho) ho
  rw [h] at hg
  show Fx _ _ _ _ (Ret w [rdE bd fv rv ds] _ (fun _ => [grp (rdG bd fv (.slice none 0 0) ((settled (Fc ch) ds).map (·.firm)) (frl (settled (Fc ch) ds) 0))]) _)
  rw [frl_settled]
  exact hg
theorem rdwrite_ok (bd : Nat) (fv rv : Value) (ds : List Slot) (k : Int) (s : List UInt8) (w : World) (hn0 : 0 < ds.length) (hn : ds.length ≤ 100000) (ho : Owns w [rdE bd fv rv ds]) :
    Fx Tryz.prog 53 [ptr bd, iv k, str s] w (Ret w [rdE bd fv rv ds] (fun _ : Value => iv (dwr ds k s).1) (fun rv' => [rdE bd fv rv' (dwr ds k s).2]) (fun _ => True)) := by
  have hfl : (frl ds 0).length ≤ 100000 := by rw [frl_len]; unfold nF; exact Nat.le_trans (List.length_filter_le _ _) (by rw [List.length_take]; omega)
  have hG := ho.grp (.head _)
  have keep : ∀ e : Int, Fx Tryz.prog 53 [ptr bd, iv k, str s] w (Pure w (iv e)) → Fx Tryz.prog 53 [ptr bd, iv k, str s] w (Ret w [rdE bd fv rv ds] (fun _ : Value => iv e) (fun rv' => [rdE bd fv rv' ds]) (fun _ => True)) := fun e h =>
    (Fx.keep ho h).mono fun x w' hr => by
      cases x with
      | returned v =>
        obtain ⟨_, _, hv, ho', hk, hnn⟩ := hr
        exact ⟨rv, trivial, hv, ho', hk, hnn⟩
      | panicked _ => exact hr
      | outgrown => exact hr
  by_cases h1 : k < 0 ∨ ds.length ≤ k
  · have e : dwr ds k s = (2, ds) := by unfold dwr; rw [if_neg (by omega), if_pos h1]
    rw [e]
    exact keep 2 (rwrite_err bd fv rv _ _ k s w (by rw [List.length_map]; exact h1) hG)
  · obtain ⟨j, rfl⟩ : ∃ j : Nat, k = j := ⟨k.toNat, by omega⟩
    by_cases h2 : 64 < s.length
    · have e : dwr ds j s = (3, ds) := by unfold dwr; rw [if_neg (by omega), if_neg h1, if_pos h2]
      rw [e]
      exact keep 3 (rwrite_long bd fv rv _ _ j s w (by rw [List.length_map]; omega) h2 hG)
    · obtain ⟨x, hx⟩ : ∃ x, ds[j]? = some x := ⟨_, List.getElem?_eq_getElem (by omega)⟩
      have e : dwr ds j s = (0, ds.set j ⟨x.firm, padTo s, true⟩) := by
        unfold dwr; rw [if_neg (by omega), if_neg h1, if_neg h2, Int.toNat_natCast, List.getD_eq_getElem?_getD, hx]; rfl
      rw [e]
      have hg := Fx.grp (fun ho => rwrite_ok bd fv rv (ds.map (·.firm)) (frl ds 0) j s w hfl (by rw [List.length_map]; omega) (by omega) ho) ho
      rw [frl_rwr ds j x s hx] at hg
      show Fx _ _ _ _ (Ret w [rdE bd fv rv ds] _ (fun rv' => [grp (rdG bd fv rv' ((ds.set j ⟨x.firm, padTo s, true⟩).map (·.firm)) (frl (ds.set j ⟨x.firm, padTo s, true⟩) 0))]) _)
      rw [firm_set ds j x s hx]
      exact hg
end Go.X
/- DevicePlays: the walk. -/
namespace Go.X
open Go Go.Proofs Go.RowKit
theorem freshL_frl (ds : List Slot) : freshL ds ds.length = (frl ds 0).map fun x => (x.1 : Int) := by
  apply List.ext_getElem?
  intro j
  rw [List.getElem?_map]
  cases hx : (frl ds 0)[j]? with
  | none =>
    have h := List.getElem?_eq_none_iff.1 hx
    rw [frl_len] at h
    rw [List.getElem?_eq_none (by rw [nF_freshL _ (Nat.le_refl _)]; exact h)]; rfl
  | some x =>
    have hxm := List.mem_of_getElem? hx
    have hlt := (frl_ge ds 0 x hxm).2
    obtain ⟨u, hu⟩ : ∃ u, ds[x.1]? = some u := ⟨_, List.getElem?_eq_getElem (by omega)⟩
    have huf := frl_mem ds 0 x.1 u x hu hxm (by omega)
    have hn : nF ds x.1 = j := frl_nF ds 0 j x hx
    have := freshL_hit hu huf
    rw [hn] at this
    rw [this]; rfl
theorem frl_rep (n : Nat) : ∀ i, frl (List.replicate n slot0) i = [] := by
  induction n with
  | zero => intro i; rfl
  | succ n ih => intro i; rw [List.replicate_succ]; unfold frl; rw [if_neg (by decide)]; exact ih (i + 1)
theorem rdE_new (bd : Nat) (fv : Value) (n : Nat) : grp (rdG bd fv (.slice none 0 0) (List.replicate n (zbytes 64)) []) = rdE bd fv (.slice none 0 0) (List.replicate n slot0) := by
  unfold rdE
  rw [frl_rep, List.map_replicate]
  rfl
theorem Fx.shut {P : Program} {α : Type} {f : FuncId} {args : List Value} {w : World} {G1 : α → Heap} {ret : α → Value} {φ : α → Prop} {L0 : Heap} (h : Fx P f args w (Ret w L0 ret G1 φ)) : Fx P f args w (Ret w L0 ret (fun x => [X.grp (G1 x)]) φ) :=
  h.mono fun e w' hr => by
    cases e with
    | returned v =>
      obtain ⟨x, hx, hv, ho', hk, hn⟩ := hr
      refine ⟨x, hx, hv, ho'.shut, hk, ?_⟩
      rw [ids_grp1]; exact hn
    | panicked _ => exact hr
    | outgrown => exact hr
theorem rdnew_ok (n : Nat) (w : World) (hn : n ≤ 100000) :
    Fx Tryz.prog 10 [iv n] w (Ret w [] (fun x : Nat × Value => ptr x.1) (fun x => [rdE x.1 x.2 (.slice none 0 0) (List.replicate n slot0)]) (fun _ => True)) := by
  have h := (rnew_ok n w hn).shut
  have e : (fun x : Nat × Value => [grp (rdG x.1 x.2 (.slice none 0 0) (List.replicate n (zbytes 64)) [])]) = (fun x => [rdE x.1 x.2 (.slice none 0 0) (List.replicate n slot0)]) := by
    funext x; rw [rdE_new]
  rw [e] at h
  exact h
theorem pick_sub (L : Heap) (is : List Nat) : ∀ b ∈ ids (X.pick L is), b ∈ ids L := fun _ h => ids_pick_sub h
theorem Owns.shutL {w : World} {G M : Heap} (h : Owns w (G ++ M)) : Owns w (X.grp G :: M) :=
  (h.left.shut).append h.right fun b hb hm => h.apart b (by rw [ids_grp1] at hb; exact hb) hm
structure DP where
  k : Nat
  b : Nat
  lv : Value
  bd : Nat
  fv : Value
  rv : Value
  ds : List Slot
theorem dacells_cut {l : List DAct} {k : Nat} {a : DAct} (h : l[k]? = some a) : X.cut (dacells l) (k * 4) 4 = some (dacell a) := by
  have hl := dacells_len l
  have hlt := (List.getElem?_eq_some_iff.1 h).1
  rw [cut_some (by omega)]
  congr 1
  apply List.ext_getElem?
  intro j
  rw [List.getElem?_take]
  obtain ⟨c1, c2, c3, c4⟩ := dacells_at h
  by_cases hj : j < 4
  · rw [if_pos hj, List.getElem?_drop]
    rcases (by omega : j = 0 ∨ j = 1 ∨ j = 2 ∨ j = 3) with rfl | rfl | rfl | rfl
    · exact c1
    · exact c2
    · exact c3
    · exact c4
  · rw [if_neg hj, List.getElem?_eq_none (by simp [dacell]; omega)]
theorem frl_len_le (ds : List Slot) : (frl ds 0).length ≤ ds.length := by
  rw [frl_len]; unfold nF; exact Nat.le_trans (List.length_filter_le _ _) (by rw [List.length_take]; omega)
end Go.X
