/- DeviceTears: plain laws and the walk. -/
import Derived.Test.YtckelpenodabdaaDevG
namespace Go.X
open Go Go.Proofs Go.RowKit
def DInv (ds : List Slot) : Prop := ∀ s ∈ ds, s.fresh = false → s.read = s.firm
theorem rep_inv (n : Nat) : DInv (List.replicate n slot0) := fun s hs _ => by rw [(List.mem_replicate.1 hs).2]; rfl
theorem settled_mem {F : Nat → Nat} {ds : List Slot} {s : Slot} (hs : s ∈ settled F ds) : ∃ i x, ds[i]? = some x ∧ s = if x.fresh = true then ⟨torn F (nF ds i) x, torn F (nF ds i) x, false⟩ else x := by
  obtain ⟨i, hi⟩ := List.getElem?_of_mem hs
  rw [settled_at] at hi
  cases hd : ds[i]? with
  | none => rw [hd] at hi; cases hi
  | some x => rw [hd] at hi; exact ⟨i, x, hd, (Option.some.inj hi).symm⟩
theorem settled_inv (F : Nat → Nat) {ds : List Slot} (h : DInv ds) : DInv (settled F ds) := by
  intro s hs hf
  obtain ⟨i, x, hx, rfl⟩ := settled_mem hs
  by_cases e : x.fresh = true
  · rw [if_pos e]
  · rw [if_neg e] at hf ⊢; exact h x (List.mem_of_getElem? hx) hf
theorem settled_nf {F : Nat → Nat} {ds : List Slot} : ∀ s ∈ settled F ds, s.fresh = false := by
  intro s hs
  obtain ⟨i, x, _, rfl⟩ := settled_mem hs
  by_cases e : x.fresh = true
  · rw [if_pos e]
  · rw [if_neg e]; simpa using e
theorem settled_none {F : Nat → Nat} {ds : List Slot} (h : ∀ s ∈ ds, s.fresh = false) : settled F ds = ds := by
  apply List.ext_getElem?
  intro i
  rw [settled_at]
  cases hd : ds[i]? with
  | none => rfl
  | some x => simp [h x (List.mem_of_getElem? hd)]
theorem dwr_inv {ds : List Slot} (h : DInv ds) (k : Int) (s : List UInt8) : DInv (dwr ds k s).2 := by
  unfold dwr
  split
  · exact h
  · split
    · exact h
    · split
      · exact h
      · intro x hx hf
        rcases List.mem_or_eq_of_mem_set hx with hx | hx
        · exact h x hx hf
        · rw [hx] at hf; cases hf
theorem dstep_inv {ds : List Slot} (h : DInv ds) (a : DAct) : DInv (dstep ds a) := by
  unfold dstep
  split
  · exact settled_inv _ h
  · split
    · exact settled_inv _ h
    · split
      · exact h
      · exact dwr_inv h _ _
theorem druns_inv (l : List DAct) : ∀ ds, DInv ds → DInv (druns ds l) := by
  induction l with
  | nil => intro ds h; exact h
  | cons a l ih => intro ds h; exact ih _ (dstep_inv h a)
theorem nF_freshL {ds : List Slot} : ∀ k, k ≤ ds.length → (freshL ds k).length = nF ds k
  | 0, _ => rfl
  | k + 1, h => by
    obtain ⟨s, hs⟩ : ∃ s, ds[k]? = some s := ⟨_, List.getElem?_eq_getElem (by omega)⟩
    rw [freshL_snoc hs, nF_snoc hs, List.length_append, nF_freshL k (by omega)]
    split <;> rfl
theorem freshL_pre {ds : List Slot} (k : Nat) : ∀ n, k ≤ n → n ≤ ds.length → ∃ tl, freshL ds n = freshL ds k ++ tl ∧ ∀ x ∈ tl, (k : Int) ≤ x
  | 0, h, _ => by obtain rfl : k = 0 := by omega
                  exact ⟨[], by simp, fun x h => by cases h⟩
  | n + 1, h, hn => by
    by_cases e : k = n + 1
    · subst e; exact ⟨[], by simp, fun x h => by cases h⟩
    · obtain ⟨tl, h1, h2⟩ := freshL_pre (ds := ds) k n (by omega) (by omega)
      obtain ⟨s, hs⟩ : ∃ s, ds[n]? = some s := ⟨_, List.getElem?_eq_getElem (by omega)⟩
      rw [freshL_snoc hs, h1, List.append_assoc]
      refine ⟨_, rfl, fun x hx => ?_⟩
      rcases List.mem_append.1 hx with hx | hx
      · exact h2 x hx
      · split at hx
        · rw [List.mem_singleton.1 hx]; omega
        · cases hx
theorem freshL_hit {ds : List Slot} {k : Nat} {s : Slot} (hs : ds[k]? = some s) (hf : s.fresh = true) : (freshL ds ds.length)[nF ds k]? = some (k : Int) := by
  have hlt := (List.getElem?_eq_some_iff.1 hs).1
  obtain ⟨tl, h1, _⟩ := freshL_pre (ds := ds) (k + 1) ds.length (by omega) (Nat.le_refl _)
  rw [h1, freshL_snoc hs, if_pos hf, ← nF_freshL k (by omega), List.append_assoc, List.getElem?_append_right (Nat.le_refl _), Nat.sub_self]
  rfl
theorem freshL_miss {ds : List Slot} {k : Nat} {s : Slot} (hs : ds[k]? = some s) (hf : s.fresh = false) {x : Int} (hx : (freshL ds ds.length)[nF ds k]? = some x) : ¬ x = (k : Int) := by
  have hlt := (List.getElem?_eq_some_iff.1 hs).1
  obtain ⟨tl, h1, h2⟩ := freshL_pre (ds := ds) (k + 1) ds.length (by omega) (Nat.le_refl _)
  rw [h1, freshL_snoc hs, if_neg (by simp [hf]), List.append_nil, ← nF_freshL k (by omega), List.getElem?_append_right (Nat.le_refl _), Nat.sub_self] at hx
  have := h2 x (List.mem_of_getElem? hx)
  omega
/-- what a block reads after a crash -/
theorem tears {s : Slot} (hs : s.ok) {m n : Nat} (hm : m ≤ 64) {N : List UInt8} (hN : N = s.read.take m ++ s.firm.drop m) (hx : n = 64 ∨ N[n]? ≠ s.read[n]?) : N.drop n = s.firm.drop n := by
  obtain ⟨h1, h2⟩ := hs
  have hl : (s.read.take m).length = m := by rw [List.length_take]; omega
  by_cases e : n < m
  · exfalso
    rcases hx with hx | hx
    · omega
    · apply hx
      rw [hN, List.getElem?_append_left (by omega), List.getElem?_take, if_pos e]
  · rw [hN, List.drop_append, List.drop_of_length_le (by omega), List.nil_append, hl, List.drop_drop]
    congr 1; omega
set_option maxHeartbeats 2000000 in
theorem deviceTears_ok (l : List DAct) (ch : List Int) (vl vc : Value) (w : World) (hv : RowAt w vl 4 l.length (dacells l)) (hl : l.length ≤ maxLen) (hs : ∀ a ∈ l, DActOk w a)
    (hc : RowAt w vc 1 ch.length (ivs ch)) (hcl : ch.length ≤ maxLen) (hcw : ∀ a ∈ ch, -9223372036854775808 ≤ a ∧ a ≤ 9223372036854775807) :
    Fx Try.prog 5 [vl, vc] w (Pure w (.bool true)) := by
  have hrc : ∀ L : Heap, Rd w (ids []) L vc 1 ch.length (ivs ch) := fun L => .old hc (fun _ _ _ => by simp [X.ids])
  have hra : ∀ a ∈ l, Rd w (ids []) [] a.cv 1 a.ch.length (ivs a.ch) := fun a ha => .old (hs a ha).row (fun _ _ _ => by simp [X.ids])
  have hrl : Rd w (ids []) [] vl 4 l.length (dacells l) := .old hv (fun _ _ _ => by simp [X.ids])
  have hl' := hl
  simp only [maxLen] at hl' hcl
  refine Fx.of (L0 := []) Try.func5 rfl (by kernel_rfl) Try.ntmps5 rfl (Owns.nil w) ?_
  refine XC.rdv (hrc _) fun ac mc hvc _ _ hac => ?_
  subst hvc
  refine go (k := ?_)
  refine XL.call [] [] rfl rfl rfl rfl rfl (fun _ w _ _ => dnew_ok 256 w (by decide) (by decide)) fun x _ => ?_
  obtain ⟨b, lv⟩ := x
  refine go (k := ?_)
  refine XL.q (.call (v := .bool (fewD l)) rfl rfl fun _ w' hs' => fewD_ok vl l w' (hrl w' (Owns.nil _) hs'.kept) hl (fun a ha => ⟨(hs a ha).what, (hs a ha).at_, (hs a ha).s, hra a ha w' (Owns.nil _) hs'.kept, (hs a ha).chl, (hs a ha).chw⟩)) rfl ?_
  by_cases hfew : fewD l = false
  · rw [hfew]
    refine go (k := ?_)
    refine XL.q (.call rfl rfl fun _ w _ => awake11_ok w) rfl ?_
    refine go (k := ?_)
    exact XE.ret1 () [] rfl rfl trivial rfl rfl rfl
  have hfew' : fewD l = true := by simpa using hfew
  obtain ⟨hfa, hfl⟩ := fewD_spec hfew'
  rw [hfew']
  by_cases h20 : 20 < ch.length
  · refine go (k := ?_)
    refine XL.q (.call rfl rfl fun _ w _ => awake11_ok w) rfl ?_
    refine go (k := ?_)
    exact XE.ret1 () [] rfl rfl trivial rfl rfl rfl
  refine go (k := ?_)
  refine XL.call [0] [] rfl rfl rfl rfl rfl (fun _ w1 hs' ho => drun_ok b lv (List.replicate 256 slot0) vl l w1 (rep_ok 256) (by rw [List.length_replicate]; decide) (by rw [List.length_replicate]; decide) (fun w' hk' => hrl w' (Owns.nil _) (hs'.keptTo hk' (ids_of_mem (x := devE b lv (List.replicate 256 slot0)) (.head _)))) (by omega)
    (fun a ha => ⟨by have := (hfa a ha).1; omega, by have := (hfa a ha).2; omega, (hs a ha).what, (hs a ha).chw, fun w' hk' => hra a ha w' (Owns.nil _) (hs'.keptTo hk' (ids_of_mem (x := devE b lv (List.replicate 256 slot0)) (.head _)))⟩) ho) fun _ _ => ?_
  obtain ⟨ds, hds⟩ : ∃ ds, ds = druns (List.replicate 256 slot0) l := ⟨_, rfl⟩
  have hdk : Oks ds := by rw [hds]; exact druns_ok _ _ (rep_ok 256)
  have hdl : ds.length = 256 := by rw [hds, druns_len, List.length_replicate]
  have hdi : DInv ds := by rw [hds]; exact druns_inv _ _ (rep_inv 256)
  rw [← hds]
  clear hds hra hrl
  refine XL.nm ?_
  have hdl' : ds.length ≤ 100000 := by omega
  refine go (k := ?_)
  refine XL.call [] [0] rfl rfl rfl rfl rfl (fun _ w hs _ => dcopy_ok b lv ds w hdk (by omega) hdl' (hs.own.grp (.head _))) fun x _ => ?_
  obtain ⟨b', lv'⟩ := x
  refine XL.nm ?_
  refine go (k := ?_)
  refine XL.make (.call rfl rfl fun _ w hs => fresh_ok b lv ds w hdk hdl' (hs.own.grp (.tail _ (.head _)))) rfl fun v H hv => ?_
  obtain ⟨vf, _, rfl, rfl⟩ := hv
  refine XL.nm ?_
  refine XL.rdv (.sl (m := (freshL ds ds.length).length) (.head _) (by decide) (by simp)) fun ap mp hv _ _ hap => ?_
  subst hv
  refine go (k := ?_)
  refine XL.call [2] [0, 1] rfl rfl rfl rfl rfl (fun _ w1 hs ho => Fx.grp (fun ho => crash_ok b lv ds _ ch w1 hdk hdl' (fun w' hk' => hrc [] w' (Owns.nil _) (hs.keptTo hk' (ids_of_mem (x := devE b lv ds) (.tail _ (.tail _ (.head _)))))) (by omega) hcw ho) ho) fun _ _ => ?_
  refine XL.nm ?_
  obtain ⟨sd, hsd⟩ : ∃ sd, sd = settled (Fc ch) ds := ⟨_, rfl⟩
  have hsk : Oks sd := by rw [hsd]; exact settled_ok hdk
  have hsl : sd.length = 256 := by rw [hsd, settled_len]; exact hdl
  have hat : ∀ (i : Nat) (s : Slot), ds[i]? = some s → ∃ (N : List UInt8) (f : Bool), sd[i]? = some (⟨N, N, f⟩ : Slot) ∧ N.length = 64 ∧ ((s.fresh = true ∧ ∃ m, m ≤ 64 ∧ N = s.read.take m ++ s.firm.drop m) ∨ (s.fresh = false ∧ N = s.read ∧ N = s.firm)) := by
    intro i s hi
    have hok := hdk s (List.mem_of_getElem? hi)
    rw [hsd, settled_at, hi]
    cases hf : s.fresh with
    | true => exact ⟨torn (Fc ch) (nF ds i) s, false, by simp [hf], torn_len hok, .inl ⟨rfl, _, Nat.min_le_right _ _, rfl⟩⟩
    | false =>
      have e := hdi s (List.mem_of_getElem? hi) hf
      refine ⟨s.read, s.fresh, ?_, hok.2, .inr ⟨rfl, rfl, e⟩⟩
      simp only [Option.map_some, hf]
      obtain ⟨f, r, g⟩ := s
      simp only at e ⊢
      subst e
      simp only at hf
      subst hf
      rfl
  have hsf : ∀ k, freshL sd k = [] := fun k => by rw [hsd, settled_fresh]
  rw [← hsd]
  clear hsd
  refine go (k := ?_)
  refine XC.loop (α := Nat) (fun k => [(1, .slice ac ch.length mc), (5, ptr b), (6, ptr b'), (7, .slice ap (freshL ds ds.length).length mp), (8, iv (nF ds k)), (9, iv k)])
    (fun _ => [.sl (.slice ap (freshL ds ds.length).length mp) 3 1 (ivs (freshL ds ds.length)), devE b' lv' ds, devE b lv sd]) (fun k => k ≤ 256) (fun k => 256 - k) 0 [1, 2, 0] (Nat.zero_le _) ⟨rfl, rfl, rfl, rfl, rfl, rfl, trivial⟩ rfl rfl ?_
  intro k hk
  by_cases hkl : k < 256
  · obtain ⟨s, hks⟩ : ∃ s, ds[k]? = some s := ⟨_, List.getElem?_eq_getElem (by omega)⟩
    have hok := hdk s (List.mem_of_getElem? hks)
    obtain ⟨N, f, hN, hNl, hcase⟩ := hat k s hks
    obtain ⟨fi, re, fr⟩ := s
    simp only at hcase
    have hs1 : fi.length = 64 := hok.1
    have hs2 : re.length = 64 := hok.2
    have hrf : Rd w (ids []) [.sl (.slice ap (freshL ds ds.length).length mp) 3 1 (ivs (freshL ds ds.length)), devE b' lv' ds, devE b lv sd] (.slice ap (freshL ds ds.length).length mp) 1 (freshL ds ds.length).length (ivs (freshL ds ds.length)) := .sl (.head _) (by decide) (by simp)
    refine go (k := ?_)
    refine XL.q (.call (v := .tuple #[str fi, iv 0]) rfl rfl fun _ w hs' => firm_ok b' lv' ds k _ w hdk hks (hs'.own.grp (.tail _ (.head _)))) rfl ?_
    refine go (k := ?_)
    refine XL.q (.call (v := .tuple #[str re, iv 0]) rfl rfl fun _ w hs' => read_ok b' lv' ds k _ w hdk hks (hs'.own.grp (.tail _ (.head _)))) rfl ?_
    refine go (k := ?_)
    refine XL.q (.call (v := .tuple #[str N, iv 0]) rfl rfl fun _ w hs' => read_ok b lv sd k _ w hsk hN (hs'.own.grp (.tail _ (.tail _ (.head _))))) rfl ?_
    refine go (k := ?_)
    refine XL.q (.call (v := .tuple #[str N, iv 0]) rfl rfl fun _ w hs' => firm_ok b lv sd k _ w hsk hN (hs'.own.grp (.tail _ (.tail _ (.head _))))) rfl ?_
    refine go (k := ?_)
    refine XC.loop (α := Nat) (fun n => [(1, .slice ac ch.length mc), (5, ptr b), (6, ptr b'), (7, .slice ap (freshL ds ds.length).length mp), (8, iv (nF ds k)), (9, iv k), (10, str fi), (12, str re), (14, str N), (18, iv n)])
      (fun _ => [.sl (.slice ap (freshL ds ds.length).length mp) 3 1 (ivs (freshL ds ds.length)), devE b' lv' ds, devE b lv sd]) (fun n => n ≤ 64) (fun n => 64 - n) 0 [0, 1, 2] (Nat.zero_le _) ⟨rfl, rfl, rfl, rfl, rfl, rfl, rfl, rfl, rfl, rfl, trivial⟩ rfl rfl ?_
    intro n hn
    by_cases hgo : n < 64 ∧ N[n]? = re[n]?
    · obtain ⟨c, hc1⟩ : ∃ c, N[n]? = some c := ⟨_, List.getElem?_eq_getElem (by omega)⟩
      have hc2 : re[n]? = some c := hgo.2.symm.trans hc1
      have hn64 := hgo.1
      refine go (k := ?_)
      exact XE.mid (n + 1) [0, 1, 2] ⟨by omega, by omega⟩ ⟨rfl, rfl, rfl, rfl, rfl, rfl, rfl, rfl, rfl, rfl, trivial⟩ rfl rfl
    have hdr : N.drop n = fi.drop n := by
      rcases hcase with ⟨_, m, hm, hN⟩ | ⟨_, hN1, hN2⟩
      · refine tears hok hm hN ?_
        by_cases e : n = 64
        · exact .inl e
        · exact .inr fun h => hgo ⟨by omega, h⟩
      · rw [← hN2]
    by_cases h64 : n = 64
    · subst h64
      by_cases hfr : fr = true
      · have hhit := freshL_hit hks hfr
        have hlt := (List.getElem?_eq_some_iff.1 hhit).1
        have hnb : nF ds k < 257 := by have := freshL_len ds ds.length; omega
        have hnx : nF ds (k + 1) = nF ds k + 1 := by rw [nF_snoc hks, if_pos hfr]
        obtain ⟨b1, o1, rfl⟩ : ∃ b off, ap = some ⟨b, off, none⟩ := hap.resolve_left (by omega)
        have hv1 : (ivs (freshL ds ds.length))[nF ds k * 1]? = some (iv (k : Int)) := by simp [ivs, hhit]
        refine go (k := ?_)
        rw [hdr]
        refine go (k := ?_)
        refine XL.q (.ldRd (j := nF ds k * 1) rfl rfl rfl hrf (by omega) hv1) rfl ?_
        refine go (k := ?_)
        exact XE.mid (k + 1) [0, 1, 2] ⟨by omega, by omega⟩ ⟨rfl, rfl, rfl, rfl, by rw [hnx]; rfl, rfl, trivial⟩ rfl rfl
      · have hfr' : fr = false := by simpa using hfr
        have hnx : nF ds (k + 1) = nF ds k := by rw [nF_snoc hks, if_neg hfr, Nat.add_zero]
        rcases hcase with ⟨h, _⟩ | ⟨_, hN1, hN2⟩
        · exact absurd h hfr
        subst hN1 hN2
        clear hdr
        by_cases hlt : nF ds k < (freshL ds ds.length).length
        · obtain ⟨x, hx⟩ : ∃ x, (freshL ds ds.length)[nF ds k]? = some x := ⟨_, List.getElem?_eq_getElem hlt⟩
          have hmiss := freshL_miss hks hfr' hx
          obtain ⟨b1, o1, rfl⟩ : ∃ b off, ap = some ⟨b, off, none⟩ := hap.resolve_left (by omega)
          have hv1 : (ivs (freshL ds ds.length))[nF ds k * 1]? = some (iv x) := by simp [ivs, hx]
          refine go (k := ?_)
          refine XL.q (.ldRd (j := nF ds k * 1) rfl rfl rfl hrf (by omega) hv1) rfl ?_
          refine go (k := ?_)
          exact XE.mid (k + 1) [0, 1, 2] ⟨by omega, by omega⟩ ⟨rfl, rfl, rfl, rfl, by rw [hnx]; rfl, rfl, trivial⟩ rfl rfl
        · have e8 : iv (nF ds k) = iv (nF ds (k + 1)) := by rw [hnx]
          refine go (k := ?_)
          exact XE.mid (k + 1) [0, 1, 2] ⟨by omega, by omega⟩ ⟨rfl, rfl, rfl, rfl, congrArg some e8, rfl, trivial⟩ rfl rfl
    · obtain ⟨c, hc1⟩ : ∃ c, N[n]? = some c := ⟨_, List.getElem?_eq_getElem (by omega)⟩
      obtain ⟨c', hc2⟩ : ∃ c, re[n]? = some c := ⟨_, List.getElem?_eq_getElem (by omega)⟩
      have hn64 : n < 64 := by omega
      have hcc : ¬ (c.toNat : Int) = (c'.toNat : Int) := fun h => hgo ⟨hn64, by rw [hc1, hc2, show c = c' from UInt8.toNat_inj.1 (by omega)]⟩
      by_cases hfr : fr = true
      · have hhit := freshL_hit hks hfr
        have hlt := (List.getElem?_eq_some_iff.1 hhit).1
        have hnb : nF ds k < 257 := by have := freshL_len ds ds.length; omega
        have hnx : nF ds (k + 1) = nF ds k + 1 := by rw [nF_snoc hks, if_pos hfr]
        obtain ⟨b1, o1, rfl⟩ : ∃ b off, ap = some ⟨b, off, none⟩ := hap.resolve_left (by omega)
        have hv1 : (ivs (freshL ds ds.length))[nF ds k * 1]? = some (iv (k : Int)) := by simp [ivs, hhit]
        refine go (k := ?_)
        rw [hdr]
        refine go (k := ?_)
        refine XL.q (.ldRd (j := nF ds k * 1) rfl rfl rfl hrf (by omega) hv1) rfl ?_
        refine go (k := ?_)
        exact XE.mid (k + 1) [0, 1, 2] ⟨by omega, by omega⟩ ⟨rfl, rfl, rfl, rfl, by rw [hnx]; rfl, rfl, trivial⟩ rfl rfl
      · have hfr' : fr = false := by simpa using hfr
        rcases hcase with ⟨h, _⟩ | ⟨_, hN1, hN2⟩
        · exact absurd h hfr
        · rw [← hN1] at hc2
          exact absurd (by rw [Option.some.inj (hc1.symm.trans hc2)]) hcc
  obtain rfl : k = 256 := by omega
  clear hat
  have hnl : nF ds 256 = (freshL ds ds.length).length := by rw [nF_freshL _ (Nat.le_refl _), hdl]
  rw [hnl]
  have hst : settled (Fc ch) (settled F64 ds) = settled F64 ds := settled_none settled_nf
  obtain ⟨fd, hfd⟩ : ∃ fd, fd = settled F64 ds := ⟨_, rfl⟩
  have hfk : Oks fd := by rw [hfd]; exact settled_ok hdk
  have hfl' : fd.length = 256 := by rw [hfd, settled_len]; exact hdl
  refine go (k := ?_)
  refine XL.call [1] [0, 2] rfl rfl rfl rfl rfl (fun _ w _ ho => Fx.grp (fun ho => flush_ok b' lv' ds w hdk hdl' ho) ho) fun _ _ => ?_
  rw [← hfd] at hst ⊢
  refine XL.nm ?_
  refine go (k := ?_)
  refine XL.call [] [0, 1, 2] rfl rfl rfl rfl rfl (fun _ w hs _ => dcopy_ok b' lv' fd w hfk (by omega) (by omega) (hs.own.grp (.head _))) fun x _ => ?_
  obtain ⟨b3, lv3⟩ := x
  refine XL.nm ?_
  refine go (k := ?_)
  refine XL.call [1] [0, 2, 3] rfl rfl rfl rfl rfl (fun _ w1 hs ho => Fx.grp (fun ho => crash_ok b' lv' fd _ ch w1 hfk (by omega) (fun w' hk' => hrc [] w' (Owns.nil _) (hs.keptTo hk' (ids_of_mem (x := devE b' lv' fd) (.tail _ (.head _))))) (by omega) hcw ho) ho) fun _ _ => ?_
  rw [hst]
  refine XL.nm ?_
  refine go (k := ?_)
  refine XC.loop (α := Nat) (fun k => [(5, ptr b), (6, ptr b'), (7, .slice ap (freshL ds ds.length).length mp), (8, iv (freshL ds ds.length).length), (19, ptr b3), (20, iv k)])
    (fun _ => [devE b' lv' fd, devE b3 lv3 fd, devE b lv sd]) (fun k => k ≤ 256) (fun k => 256 - k) 0 [0, 1, 3] (Nat.zero_le _) ⟨rfl, rfl, rfl, rfl, rfl, rfl, trivial⟩ rfl rfl ?_
  intro k hk
  by_cases hkl : k < 256
  · obtain ⟨⟨fi, re, fr⟩, hks⟩ : ∃ s, fd[k]? = some s := ⟨_, List.getElem?_eq_getElem (by omega)⟩
    refine go (k := ?_)
    refine XL.q (.call (v := .tuple #[str re, iv 0]) rfl rfl fun _ w hs' => read_ok b' lv' fd k _ w hfk hks (hs'.own.grp (.head _))) rfl ?_
    refine go (k := ?_)
    refine XL.q (.call (v := .tuple #[str re, iv 0]) rfl rfl fun _ w hs' => read_ok b3 lv3 fd k _ w hfk hks (hs'.own.grp (.tail _ (.head _)))) rfl ?_
    refine go (k := ?_)
    exact XE.mid (k + 1) [0, 1, 2] ⟨by omega, by omega⟩ ⟨rfl, rfl, rfl, rfl, rfl, rfl, trivial⟩ rfl rfl
  · refine go (k := ?_)
    refine XL.make (.call rfl rfl fun _ w hs => fresh_ok b lv sd w hsk (by omega) (hs.own.grp (.tail _ (.tail _ (.head _))))) rfl fun v H hv => ?_
    obtain ⟨v', _, rfl, rfl⟩ := hv
    rw [hsf]
    refine XL.slv (.head _) fun ao q m hv hq _ => ?_
    subst hv
    obtain rfl : q = 0 := by simpa using hq
    refine go (k := ?_)
    refine XL.q (.call rfl rfl fun _ w _ => awake11_ok w) rfl ?_
    refine go (k := ?_)
    exact XE.ret1 () [] rfl rfl trivial rfl rfl rfl
end Go.X
