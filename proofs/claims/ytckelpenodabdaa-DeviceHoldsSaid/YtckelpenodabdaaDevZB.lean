/- DeviceHolds. -/
import Derived.Test.YtckelpenodabdaaDevH
import Derived.Test.YtckelpenodabdaaRep
namespace Go.X
open Go Go.Proofs Go.RowKit
set_option maxHeartbeats 2000000 in
theorem deviceHolds_ok (l : List DAct) (a : Nat) (s : List UInt8) (vl : Value) (w : World) (hv : RowAt w vl 4 l.length (dacells l)) (hl : l.length ≤ maxLen) (hs : ∀ a ∈ l, DActOk w a) (ha : a < 256) (hsl : s.length ≤ maxLen) :
    Fx Try.prog 10 [vl, .int .u8 a, str s] w (Pure w (.bool true)) := by
  have hra : ∀ a ∈ l, Rd w (ids []) [] a.cv 1 a.ch.length (ivs a.ch) := fun a ha => .old (hs a ha).row (fun _ _ _ => by simp [X.ids])
  have hrl : Rd w (ids []) [] vl 4 l.length (dacells l) := .old hv (fun _ _ _ => by simp [X.ids])
  have hl' := hl
  simp only [maxLen] at hl' hsl
  refine Fx.of (L0 := []) Try.func10 rfl (by kernel_rfl) Try.ntmps10 rfl (Owns.nil w) ?_
  refine go (k := ?_)
  refine XL.call [] [] rfl rfl rfl rfl rfl (fun _ w _ _ => dnew_ok 256 w (by decide) (by decide)) fun x _ => ?_
  obtain ⟨b, lv⟩ := x
  refine go (k := ?_)
  refine XL.q (.call (v := .bool (fewD l)) rfl rfl fun _ w' hs' => fewD_ok vl l w' (hrl w' (Owns.nil _) hs'.kept) hl (fun a ha => ⟨(hs a ha).what, (hs a ha).at_, (hs a ha).s, hra a ha w' (Owns.nil _) hs'.kept, (hs a ha).chl, (hs a ha).chw⟩)) rfl ?_
  by_cases hfew : fewD l = false
  · rw [hfew]
    refine go (k := ?_)
    refine XL.q (.call rfl rfl fun _ w _ => awake11_ok w) rfl ?_
    refine go (k := ?_)
    exact XE.ret1 () [] rfl rfl trivial rfl rfl rfl
  have hfew' : fewD l = true := by simpa using hfew
  obtain ⟨hfa, hfl⟩ := fewD_spec hfew'
  rw [hfew']
  by_cases h64 : 64 < s.length
  · refine go (k := ?_)
    refine XL.q (.call rfl rfl fun _ w _ => awake11_ok w) rfl ?_
    refine go (k := ?_)
    exact XE.ret1 () [] rfl rfl trivial rfl rfl rfl
  refine go (k := ?_)
  refine XL.call [0] [] rfl rfl rfl rfl rfl (fun _ w1 hs' ho => drun_ok b lv (List.replicate 256 slot0) vl l w1 (rep_ok 256) (by rw [List.length_replicate]; decide) (by rw [List.length_replicate]; decide) (fun w' hk' => hrl w' (Owns.nil _) (hs'.keptTo hk' (ids_of_mem (x := devE b lv (List.replicate 256 slot0)) (.head _)))) (by omega)
    (fun a ha => ⟨by have := (hfa a ha).1; omega, by have := (hfa a ha).2; omega, (hs a ha).what, (hs a ha).chw, fun w' hk' => hra a ha w' (Owns.nil _) (hs'.keptTo hk' (ids_of_mem (x := devE b lv (List.replicate 256 slot0)) (.head _)))⟩) ho) fun _ _ => ?_
  obtain ⟨ds, hds⟩ : ∃ ds, ds = druns (List.replicate 256 slot0) l := ⟨_, rfl⟩
  have hdk : Oks ds := by rw [hds]; exact druns_ok _ _ (rep_ok 256)
  have hdl : ds.length = 256 := by rw [hds, druns_len, List.length_replicate]
  rw [← hds]
  clear hds
  refine XL.nm ?_
  have hdl' : ds.length ≤ 100000 := by omega
  refine go (k := ?_)
  refine XL.call [] [0] rfl rfl rfl rfl rfl (fun _ w hs _ => dcopy_ok b lv ds w hdk (by omega) hdl' (hs.own.grp (.head _))) fun x _ => ?_
  obtain ⟨b', lv'⟩ := x
  refine XL.nm ?_
  refine go (k := ?_)
  obtain ⟨x, hx⟩ : ∃ x, ds[a]? = some x := ⟨_, List.getElem?_eq_getElem (by omega)⟩
  refine XL.call [1] [0] rfl rfl rfl rfl rfl (fun _ w _ ho => Fx.grp (fun ho => write_ok b lv ds a x s w hdk hx (by omega) ho) ho) fun _ _ => ?_
  obtain ⟨d2, hd2⟩ : ∃ d2, d2 = ds.set a ⟨x.firm, padTo s, true⟩ := ⟨_, rfl⟩
  have h2k : Oks d2 := by rw [hd2]; exact hdk.set ⟨(hdk x (List.mem_of_getElem? hx)).1, padTo_len (by omega)⟩
  have h2l : d2.length = 256 := by rw [hd2, List.length_set, hdl]
  have h2a : d2[a]? = some ⟨x.firm, padTo s, true⟩ := by rw [hd2, List.getElem?_set_self (by omega)]
  have h2o : ∀ k, k ≠ a → d2[k]? = ds[k]? := fun k hk => by rw [hd2, List.getElem?_set_ne (by omega)]
  rw [← hd2]
  clear hd2
  refine XL.nm ?_
  refine go (k := ?_)
  refine XL.call [] [0, 1] rfl rfl rfl rfl rfl (fun _ w hs _ => dcopy_ok b lv d2 w h2k (by omega) (by omega) (hs.own.grp (.head _))) fun y _ => ?_
  obtain ⟨b3, lv3⟩ := y
  refine XL.nm ?_
  refine go (k := ?_)
  refine XL.call [0] [1, 2] rfl rfl rfl rfl rfl (fun _ w1 hs ho => Fx.grp (fun ho => crash_ok b3 lv3 d2 _ [] w1 h2k (by omega) (fun w' hk' => (Rd.nil : Rd _ _ [] _ 1 _ (ivs [])) w' (Owns.nil _) (hs.keptTo hk' (ids_of_mem (x := devE b3 lv3 d2) (.head _)))) (by decide) (by simp) ho) ho) fun _ _ => ?_
  obtain ⟨d3, hd3⟩ : ∃ d3, d3 = settled (Fc []) d2 := ⟨_, rfl⟩
  have h3k : Oks d3 := by rw [hd3]; exact settled_ok h2k
  have h3l : d3.length = 256 := by rw [hd3, settled_len, h2l]
  rw [← hd3]
  clear hd3
  refine XL.nm ?_
  refine go (k := ?_)
  refine XL.call [0] [1, 2] rfl rfl rfl rfl rfl (fun _ w1 hs' ho => drun_ok b3 lv3 d3 vl l w1 h3k (by omega) (by omega) (fun w' hk' => hrl w' (Owns.nil _) (hs'.keptTo hk' (ids_of_mem (x := devE b3 lv3 d3) (.head _)))) (by omega)
    (fun a ha => ⟨by have := (hfa a ha).1; omega, by have := (hfa a ha).2; omega, (hs a ha).what, (hs a ha).chw, fun w' hk' => hra a ha w' (Owns.nil _) (hs'.keptTo hk' (ids_of_mem (x := devE b3 lv3 d3) (.head _)))⟩) ho) fun _ _ => ?_
  refine XL.nm ?_
  clear hra hrl
  refine go (k := ?_)
  refine XC.loop (α := Nat) (fun k => [(1, .int .u8 a), (2, str s), (7, ptr b), (8, ptr b'), (10, iv k)]) (fun _ => [devE b lv d2, devE b' lv' ds]) (fun k => k ≤ 256) (fun k => 256 - k) 0 [1, 2] (Nat.zero_le _) ⟨rfl, rfl, rfl, rfl, rfl, trivial⟩ rfl rfl ?_
  intro k hk
  by_cases hkl : k < 256
  · obtain ⟨⟨fi, re, fr⟩, hks⟩ : ∃ s, ds[k]? = some s := ⟨_, List.getElem?_eq_getElem (by omega)⟩
    refine go (k := ?_)
    refine XL.q (.call (v := .tuple #[str re, iv 0]) rfl rfl fun _ w hs' => read_ok b' lv' ds k _ w hdk hks (hs'.own.grp (.tail _ (.head _)))) rfl ?_
    by_cases hka : k = a
    · subst hka
      refine go (k := ?_)
      refine XL.q (.call (v := .tuple #[str (padTo s), iv 0]) rfl rfl fun _ w hs' => read_ok b lv d2 k _ w h2k h2a (hs'.own.grp (.head _))) rfl ?_
      refine go (k := ?_)
      have hrep : ∀ w, Fx Try.prog 44 [str [0], iv (64 - (s.length : Int))] w (Pure w (str (zbytes (64 - s.length)))) := fun w => by
        have h := repeat_ok [0] (64 - s.length) w (by simp; omega) (by omega)
        have e := Lib.repeatL_replicate 0 1 (64 - s.length)
        rw [Nat.mul_one] at e
        rw [show List.replicate 1 (0 : UInt8) = [0] from rfl] at e
        rw [e] at h
        rw [show (64 : Int) - (s.length : Int) = ((64 - s.length : Nat) : Int) by omega]
        exact h
      refine XL.q (.call rfl rfl fun _ w _ => hrep w) rfl ?_
      have hcat : s.length + (zbytes (64 - s.length)).length ≤ 9223372036854775807 := by rw [zbytes_len]; omega
      refine go (k := ?_)
      rw [show s ++ zbytes (64 - s.length) = padTo s from rfl]
      refine go (k := ?_)
      exact XE.mid (k + 1) [0, 1] ⟨by omega, by omega⟩ ⟨rfl, rfl, rfl, rfl, rfl, trivial⟩ rfl rfl
    · have hks2 := (h2o k hka).trans hks
      refine go (k := ?_)
      refine XL.q (.call (v := .tuple #[str re, iv 0]) rfl rfl fun _ w hs' => read_ok b lv d2 k _ w h2k hks2 (hs'.own.grp (.head _))) rfl ?_
      have hka' : ¬ (k : Int) = (a : Int) := by omega
      refine go (k := ?_)
      exact XE.mid (k + 1) [0, 1] ⟨by omega, by omega⟩ ⟨rfl, rfl, rfl, rfl, rfl, trivial⟩ rfl rfl
  · refine go (k := ?_)
    refine XL.q (.call rfl rfl fun _ w _ => awake11_ok w) rfl ?_
    refine go (k := ?_)
    exact XE.ret1 () [] rfl rfl trivial rfl rfl rfl
end Go.X
