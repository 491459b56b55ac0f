/- LineGoes: the reference of package line (revertref12). -/
import Derived.Test.YtmmofanfgoahkaaGreatDoorZ22
import Derived.Test.YtmmofanfgoahkaaGreatDoorZ20
namespace Go.X
open Go Go.Proofs Go.RowKit
abbrev rlCs (bd : Nat) (cut : Int) (cv : Value) (acts : Nat) (down : Bool) : List Value := [ptr bd, iv cut, cv, iv acts, .bool down]
abbrev rlG (br bd : Nat) (fv rv cv : Value) (cut : Int) (x : Ln) : Heap := [.blk br (rlCs bd cut cv x.acts x.down) 36, rdE bd fv rv x.ds]
theorem rdread_ok (bd : Nat) (fv rv : Value) (ds : List Slot) (k : Int) (w : World) (hd : DInv ds) (hn : 0 < ds.length) (hn2 : ds.length ≤ 100000) (ho : Owns w [rdE bd fv rv ds]) :
    Fx Tryz.prog 119 [ptr bd, iv k] w (Pure w (.tuple #[str (drd ds k).1, iv (drd ds k).2])) := by
  have h2 := ho.grp (.head _)
  have hfl : (frl ds 0).length ≤ 100000 := by have := frl_len_le ds; omega
  by_cases hout : k < 0 ∨ (ds.length : Int) ≤ k
  · have e : drd ds k = ([], 2) := by unfold drd; rw [if_neg (by omega), if_pos hout]
    rw [e]
    exact rread_out bd fv rv _ _ k w (by rw [List.length_map]; exact hout) h2
  · obtain ⟨j, rfl⟩ : ∃ j : Nat, k = j := ⟨k.toNat, by omega⟩
    obtain ⟨s, hs⟩ : ∃ s, ds[j]? = some s := ⟨_, List.getElem?_eq_getElem (by omega)⟩
    have e : drd ds j = (s.read, 0) := by
      unfold drd; rw [if_neg (by omega), if_neg hout, Int.toNat_natCast, List.getD_eq_getElem?_getD, hs]; rfl
    rw [e]
    have := rread_ok bd fv rv (ds.map (·.firm)) (frl ds 0) j w hfl (by rw [List.length_map]; omega) h2
    rw [frl_rrd ds j s hd hs] at this
    exact this
section
variable (br bd : Nat) (fv rv cv : Value) (cut : Int) (ch : List Int) (x : Ln)
theorem rodd_at (acts : Nat) (down : Bool) (t : TypeId) (fz : Nat × Nat) (w : World) (hb : w.heap[br]? = some (.cells (rlCs bd cut cv acts down).toArray t fz)) (hv : RowAt w cv 1 ch.length (ivs ch)) (hl : ch.length ≤ 1000000)
    (hw : ∀ a ∈ ch, -9223372036854775808 ≤ a ∧ a ≤ 9223372036854775807) : Fx Tryz.prog 54 [ptr br] w (Pure w (.bool (oddc ch))) := by
  refine Fx.of (L0 := []) Tryz.func54 rfl (by kernel_rfl) Tryz.ntmps54 rfl (Owns.nil w) ?_
  have hB : br ∉ ids ([] : Heap) := by simp [X.ids]
  have hr : ∀ L : Heap, Rd w (ids []) L cv 1 ch.length (ivs ch) := fun L => .old hv (fun _ _ _ => by simp [X.ids])
  refine XC.rdv (hr _) fun ao m hva _ _ haa => ?_
  subst hva
  have h2 : (rlCs bd cut (.slice ao ch.length m) acts down)[0 + 2]? = some (.slice ao ch.length m) := rfl
  cases ch with
  | nil =>
    refine go (k := ?_)
    exact XE.ret1 () [] rfl rfl trivial rfl rfl rfl
  | cons c ch =>
    obtain ⟨b1, o1, rfl⟩ : ∃ b off, ao = some ⟨b, off, none⟩ := haa.resolve_left (by simp)
    have hlen : 0 < (c :: ch).length := by simp
    refine go (k := ?_)
    refine XL.q (.ldRd (j := 0 * 1) rfl rfl rfl (hr _) (by omega) rfl) rfl ?_
    have hcw := hw c (.head _)
    refine go (k := ?_)
    exact XE.ret1 () [] rfl rfl trivial rfl rfl rfl
theorem rcounted_ok (hx : x.acts ≤ 1000000) (w : World) (ho : Owns w (rlG br bd fv rv cv cut x)) :
    Fx Tryz.prog 52 [ptr br] w (Ret w (rlG br bd fv rv cv cut x) (fun _ : Unit => .bool (decide ((x.acts : Int) = cut))) (fun _ => rlG br bd fv rv cv cut ⟨x.acts + 1, x.down, x.ds⟩) (fun _ => True)) := by
  obtain ⟨acts, down, ds⟩ := x
  refine Fx.of Tryz.func52 rfl (by kernel_rfl) Tryz.ntmps52 rfl ho ?_
  simp only at hx
  have h3 : (rlCs bd cut cv acts down)[0 + 3]? = some (iv acts) := rfl
  have h1 : (rlCs bd cut cv (acts + 1) down)[0 + 1]? = some (iv cut) := rfl
  have sp : SplL (rlCs bd cut cv acts down) (0 + 3) [iv ((acts : Int) + 1)] (rlCs bd cut cv (acts + 1) down) := ⟨by simp, rfl⟩
  refine go (k := ?_)
  exact XE.ret1 () [0, 1] rfl rfl trivial rfl rfl rfl
theorem rblow_ok (hk : Oks x.ds) (hn : x.ds.length ≤ 100000) (hl : ch.length ≤ 1000000) (hw : ∀ a ∈ ch, -9223372036854775808 ≤ a ∧ a ≤ 9223372036854775807) (w : World)
    (hv : ∀ w', Kept (ids (rlG br bd fv rv cv cut x)) w w' → RowAt w' cv 1 ch.length (ivs ch)) (ho : Owns w (rlG br bd fv rv cv cut x)) :
    Fx Tryz.prog 23 [ptr br] w (Ret w (rlG br bd fv rv cv cut x) (fun _ : Value => .tuple #[]) (fun rv' => rlG br bd fv rv' cv cut ⟨x.acts, true, blown ch x.down x.ds⟩) (fun _ => True)) := by
  obtain ⟨acts, down, ds⟩ := x
  obtain ⟨ao, m, rfl, _, _⟩ := hv w (.refl _ _)
  refine Fx.of Tryz.func23 rfl (by kernel_rfl) Tryz.ntmps23 rfl ho ?_
  cases down with
  | true =>
    have h4 : (rlCs bd cut (.slice ao ch.length m) acts true)[0 + 4]? = some (.bool true) := rfl
    refine go (k := ?_)
    exact XE.ret0 rv [0, 1] rfl trivial rfl rfl rfl
  | false =>
    have h4 : (rlCs bd cut (.slice ao ch.length m) acts false)[0 + 4]? = some (.bool false) := rfl
    have h0 : (rlCs bd cut (.slice ao ch.length m) acts true)[0 + 0]? = some (ptr bd) := rfl
    have h2 : (rlCs bd cut (.slice ao ch.length m) acts true)[0 + 2]? = some (.slice ao ch.length m) := rfl
    have sp : SplL (rlCs bd cut (.slice ao ch.length m) acts false) (0 + 4) [.bool true] (rlCs bd cut (.slice ao ch.length m) acts true) := ⟨by simp, rfl⟩
    refine go (k := ?_)
    refine XL.call [1] [0] rfl rfl rfl rfl rfl (fun _ w1 hs ho => rdcrash_ok bd fv rv _ ds ch w1 hk hn (fun w' hk' => hv w' (hs.kept.trans hk' fun q hq => hs.wr q (ids_pick_sub (L := [_, _]) (is := [1]) hq))) hl hw ho) fun _ _ => ?_
    refine XL.nm ?_
    refine go (k := ?_)
    exact XE.end0 (.slice none 0 0) [1, 0] rfl trivial rfl rfl rfl
theorem rlread_ok (k : Int) (hd : DInv x.ds) (hn0 : 0 < x.ds.length) (hn : x.ds.length ≤ 100000) (w : World) (ho : Owns w (rlG br bd fv rv cv cut x)) :
    Fx Tryz.prog 86 [ptr br, iv k] w (Pure w (.tuple #[str (x.read k).1, iv (x.read k).2])) := by
  obtain ⟨acts, down, ds⟩ := x
  simp only at hd hn0 hn ho ⊢
  have hown : ∀ w', Kept [] w w' → Owns w' [rdE bd fv rv ds] := fun w' k => ((ho.of_kept k (fun _ _ h => by cases h)).pick (is := [1]) (by decide))
  have hb : w.heap[br]? = some (.cells (rlCs bd cut cv acts down).toArray _ (0, 0)) := ho.ok _ (.head _)
  have hB : br ∉ ids ([] : Heap) := by simp [X.ids]
  have h0 : (rlCs bd cut cv acts down)[0 + 0]? = some (ptr bd) := rfl
  have h4 : (rlCs bd cut cv acts down)[0 + 4]? = some (.bool down) := rfl
  refine Fx.of (L0 := []) Tryz.func86 rfl (by kernel_rfl) Tryz.ntmps86 rfl (Owns.nil w) ?_
  cases down with
  | true =>
    refine go (k := ?_)
    exact XE.ret2 () [] rfl rfl rfl trivial rfl rfl rfl
  | false =>
    refine go (k := ?_)
    refine XL.q (.call rfl rfl fun _ w' hs => rdread_ok bd fv rv ds k w' hd hn0 hn (hown w' hs.kept)) rfl ?_
    refine go (k := ?_)
    exact XE.ret2 () [] rfl rfl rfl trivial rfl rfl rfl
theorem rlwrite_ok (k : Int) (s : List UInt8) (hk : Oks x.ds) (hn0 : 0 < x.ds.length) (hn : x.ds.length ≤ 100000) (ha : x.acts ≤ 1000000) (hl : ch.length ≤ 1000000) (hw : ∀ a ∈ ch, -9223372036854775808 ≤ a ∧ a ≤ 9223372036854775807) (w : World)
    (hv : ∀ w', Kept (ids (rlG br bd fv rv cv cut x)) w w' → RowAt w' cv 1 ch.length (ivs ch)) (ho : Owns w (rlG br bd fv rv cv cut x)) :
    Fx Tryz.prog 16 [ptr br, iv k, str s] w (Ret w (rlG br bd fv rv cv cut x) (fun _ : Value => iv (x.write cut ch k s).1) (fun rv' => rlG br bd fv rv' cv cut (x.write cut ch k s).2) (fun _ => True)) := by
  obtain ⟨acts, down, ds⟩ := x
  simp only at hk hn0 hn ha
  refine Fx.of Tryz.func16 rfl (by kernel_rfl) Tryz.ntmps16 rfl ho ?_
  cases down with
  | true =>
    have h4 : (rlCs bd cut cv acts true)[0 + 4]? = some (.bool true) := rfl
    refine go (k := ?_)
    exact XE.ret1 rv [0, 1] rfl rfl trivial rfl rfl rfl
  | false =>
    have h4 : (rlCs bd cut cv acts false)[0 + 4]? = some (.bool false) := rfl
    have h0 : (rlCs bd cut cv (acts + 1) false)[0 + 0]? = some (ptr bd) := rfl
    refine go (k := ?_)
    refine XL.call [0, 1] [] rfl rfl rfl rfl rfl (fun _ w1 _ ho => rcounted_ok br bd fv rv cv cut ⟨acts, false, ds⟩ ha w1 ho) fun _ _ => ?_
    refine XL.nm ?_
    by_cases hc : (acts : Int) = cut
    · have hA : Ln.write cut ch ⟨acts, false, ds⟩ k s = (8, ⟨acts + 1, true, settled (Fc ch) (if oddc ch = true then (dwr ds k s).2 else ds)⟩) := by unfold Ln.write Ln.act; simp [hc]
      rw [hA]
      refine go (k := ?_)
      refine XL.q (.call rfl rfl fun _ w1 hs => rodd_at br bd cv cut ch (acts + 1) false _ _ w1 (hs.own.ok _ (.head _)) (hv w1 hs.kept) hl hw) rfl ?_
      cases hodd : oddc ch with
      | true =>
        refine go (k := ?_)
        refine XL.call [1] [0] rfl rfl rfl rfl rfl (fun _ w1 _ ho => rdwrite_ok bd fv rv ds k s w1 hn0 hn ho) fun rv1 _ => ?_
        refine XL.nm ?_
        refine go (k := ?_)
        refine XL.call [1, 0] [] rfl rfl rfl rfl rfl (fun _ w1 hs ho => rblow_ok br bd fv rv1 cv cut ch ⟨acts + 1, false, (dwr ds k s).2⟩ (dwr_ok hk k s) (by rw [dwr_len]; exact hn) hl hw w1 (fun w' hk' => hv w' (hs.keptTo hk' (fun q hq => ids_pick_sub (L := [_, _]) (is := [1, 0]) hq))) ho) fun rv2 _ => ?_
        refine XL.nm ?_
        refine go (k := ?_)
        exact XE.ret1 rv2 [0, 1] rfl rfl trivial rfl rfl rfl
      | false =>
        refine go (k := ?_)
        refine XL.call [0, 1] [] rfl rfl rfl rfl rfl (fun _ w1 hs ho => rblow_ok br bd fv rv cv cut ch ⟨acts + 1, false, ds⟩ hk hn hl hw w1 (fun w' hk' => hv w' (hs.keptTo hk' (fun q hq => hq))) ho) fun rv2 _ => ?_
        refine XL.nm ?_
        refine go (k := ?_)
        exact XE.ret1 rv2 [0, 1] rfl rfl trivial rfl rfl rfl
    · have hA : Ln.write cut ch ⟨acts, false, ds⟩ k s = ((dwr ds k s).1, ⟨acts + 1, false, (dwr ds k s).2⟩) := by unfold Ln.write Ln.act; simp [hc]
      rw [hA]
      refine go (k := ?_)
      refine XL.call [1] [0] rfl rfl rfl rfl rfl (fun _ w1 _ ho => rdwrite_ok bd fv rv ds k s w1 hn0 hn ho) fun rv1 _ => ?_
      refine XL.nm ?_
      refine go (k := ?_)
      exact XE.ret1 rv1 [1, 0] rfl rfl trivial rfl rfl rfl
theorem rlflush_ok (hk : Oks x.ds) (hn : x.ds.length ≤ 100000) (ha : x.acts ≤ 1000000) (hl : ch.length ≤ 1000000) (hw : ∀ a ∈ ch, -9223372036854775808 ≤ a ∧ a ≤ 9223372036854775807) (w : World)
    (hv : ∀ w', Kept (ids (rlG br bd fv rv cv cut x)) w w' → RowAt w' cv 1 ch.length (ivs ch)) (ho : Owns w (rlG br bd fv rv cv cut x)) :
    Fx Tryz.prog 45 [ptr br] w (Ret w (rlG br bd fv rv cv cut x) (fun _ : Value => iv (x.flush cut ch).1) (fun rv' => rlG br bd fv rv' cv cut (x.flush cut ch).2) (fun _ => True)) := by
  obtain ⟨acts, down, ds⟩ := x
  simp only at hk hn ha
  refine Fx.of Tryz.func45 rfl (by kernel_rfl) Tryz.ntmps45 rfl ho ?_
  cases down with
  | true =>
    have h4 : (rlCs bd cut cv acts true)[0 + 4]? = some (.bool true) := rfl
    refine go (k := ?_)
    exact XE.ret1 rv [0, 1] rfl rfl trivial rfl rfl rfl
  | false =>
    have h4 : (rlCs bd cut cv acts false)[0 + 4]? = some (.bool false) := rfl
    have h0 : (rlCs bd cut cv (acts + 1) false)[0 + 0]? = some (ptr bd) := rfl
    refine go (k := ?_)
    refine XL.call [0, 1] [] rfl rfl rfl rfl rfl (fun _ w1 _ ho => rcounted_ok br bd fv rv cv cut ⟨acts, false, ds⟩ ha w1 ho) fun _ _ => ?_
    refine XL.nm ?_
    by_cases hc : (acts : Int) = cut
    · have hA : Ln.flush cut ch ⟨acts, false, ds⟩ = (8, ⟨acts + 1, true, settled (Fc ch) (if oddc ch = true then settled F64 ds else ds)⟩) := by unfold Ln.flush Ln.act; simp [hc]
      rw [hA]
      refine go (k := ?_)
      refine XL.q (.call rfl rfl fun _ w1 hs => rodd_at br bd cv cut ch (acts + 1) false _ _ w1 (hs.own.ok _ (.head _)) (hv w1 hs.kept) hl hw) rfl ?_
      cases hodd : oddc ch with
      | true =>
        refine go (k := ?_)
        refine XL.call [1] [0] rfl rfl rfl rfl rfl (fun _ w1 _ ho => rdflush_ok bd fv rv ds w1 hk hn ho) fun _ _ => ?_
        refine XL.nm ?_
        refine go (k := ?_)
        refine XL.call [1, 0] [] rfl rfl rfl rfl rfl (fun _ w1 hs ho => rblow_ok br bd fv (.slice none 0 0) cv cut ch ⟨acts + 1, false, settled F64 ds⟩ (settled_ok hk) (by rw [settled_len]; exact hn) hl hw w1 (fun w' hk' => hv w' (hs.keptTo hk' (fun q hq => ids_pick_sub (L := [_, _]) (is := [1, 0]) hq))) ho) fun rv2 _ => ?_
        refine XL.nm ?_
        refine go (k := ?_)
        exact XE.ret1 rv2 [0, 1] rfl rfl trivial rfl rfl rfl
      | false =>
        refine go (k := ?_)
        refine XL.call [0, 1] [] rfl rfl rfl rfl rfl (fun _ w1 hs ho => rblow_ok br bd fv rv cv cut ch ⟨acts + 1, false, ds⟩ hk hn hl hw w1 (fun w' hk' => hv w' (hs.keptTo hk' (fun q hq => hq))) ho) fun rv2 _ => ?_
        refine XL.nm ?_
        refine go (k := ?_)
        exact XE.ret1 rv2 [0, 1] rfl rfl trivial rfl rfl rfl
    · have hA : Ln.flush cut ch ⟨acts, false, ds⟩ = (0, ⟨acts + 1, false, settled F64 ds⟩) := by unfold Ln.flush Ln.act; simp [hc]
      rw [hA]
      refine go (k := ?_)
      refine XL.call [1] [0] rfl rfl rfl rfl rfl (fun _ w1 _ ho => rdflush_ok bd fv rv ds w1 hk hn ho) fun _ _ => ?_
      refine XL.nm ?_
      refine go (k := ?_)
      exact XE.ret1 (.slice none 0 0) [1, 0] rfl rfl trivial rfl rfl rfl
end
end Go.X
/- Package revertref13 (the document's regions): they do what the program's regions do. -/
namespace Go.X
open Go Go.Proofs Go.RowKit
theorem r13needs_ok (n : Nat) (w : World) (h : n ≤ 1000000) : Fx Tryz.prog 21 [iv n] w (Pure w (iv (nd n))) := by
  refine Fx.of (L0 := []) Tryz.func21 rfl (by kernel_rfl) Tryz.ntmps21 rfl (Owns.nil w) ?_
  have hn : nd n ≤ n + 1 := nd_le n
  have hlo : ∀ k, k < nd n → 1 ≤ k → k * 58 < n := fun k h1 h2 => by
    unfold nd at h1; split at h1 <;> omega
  have hhi : n ≤ nd n * 58 := (nd_spec n).1
  refine go (k := ?_)
  refine XC.loop (α := Nat) (fun k => [(0, iv n), (3, iv k)]) (fun _ => []) (fun k => 1 ≤ k ∧ k ≤ nd n) (fun k => nd n - k) 1 [] ⟨Nat.le_refl _, nd_pos n⟩ ⟨rfl, rfl, trivial⟩ rfl rfl ?_
  rintro k ⟨hk1, hk⟩
  by_cases hlt : k < nd n
  · have h1 := hlo k hlt hk1
    have h2 : (k : Int) * 58 < (n : Int) := by omega
    refine go (k := ?_)
    exact XE.mid (k + 1) [] ⟨⟨by omega, by omega⟩, by omega⟩ ⟨rfl, rfl, trivial⟩ rfl rfl
  · obtain rfl : k = nd n := by omega
    have h2 : ¬ ((nd n : Nat) : Int) * 58 < (n : Int) := by omega
    refine go (k := ?_)
    exact XE.ret1 () [] rfl rfl trivial rfl rfl rfl
theorem r13fixed_ok (n k : Nat) (w : World) (hn : n < 4294967296) (hk : k ≤ 4) : Fx Tryz.prog 121 [.int .u32 n, iv k] w (Pure w (str (be n k))) := by
  refine Fx.of (L0 := []) Tryz.func121 rfl (by kernel_rfl) Tryz.ntmps121 rfl (Owns.nil w) ?_
  refine go (k := ?_)
  refine XC.loop (α := Nat) (fun i => [(0, .int .u32 ((n / 256 ^ i : Nat) : Int)), (1, iv k), (5, str (be n i)), (6, iv i)]) (fun _ => []) (fun i => i ≤ k) (fun i => k - i) 0 [] (Nat.zero_le _) ⟨gv rfl (by simp), rfl, rfl, rfl, trivial⟩ rfl rfl ?_
  intro (i : Nat) (hi : i ≤ k)
  have hle : n / 256 ^ i ≤ n := Nat.div_le_self _ _
  have hbl := be_len n i
  obtain ⟨q, hq⟩ : ∃ q, q = n / 256 ^ i := ⟨_, rfl⟩
  rw [← hq] at hle ⊢
  by_cases hlt : i < k
  · obtain ⟨c, hc⟩ : ∃ c : UInt8, c = UInt8.ofNat (n / 256 ^ i % 256) := ⟨_, rfl⟩
    have hcn : (c.toNat : Int) = (q : Int) % 256 := by
      rw [hc, UInt8.toNat_ofNat', ← hq]; omega
    refine go (k := ?_)
    rw [← hcn]
    refine XL.make (.bslice rfl rfl rfl rfl rfl rfl) rfl fun _ _ hb => ?_
    obtain ⟨bs, rfl, rfl⟩ := hb
    refine go (k := ?_)
    refine XL.q (.bytesStr (m := 1) (l := [c]) rfl rfl rfl rfl (.blk (.head _) rfl (Nat.le_refl _) rfl)) rfl ?_
    refine go (k := ?_)
    refine XE.mid (i + 1) [] ⟨by omega, by omega⟩ ⟨gv rfl ?_, rfl, gv rfl ?_, rfl, trivial⟩ rfl rfl
    · congr 1
      rw [Nat.pow_succ, ← Nat.div_div_eq_div_mul, ← hq]; omega
    · rw [hc]; rfl
  · obtain rfl : i = k := by omega
    refine go (k := ?_)
    exact XE.ret1 () [] rfl rfl trivial rfl rfl rfl
theorem r13block_ok (i fl : Nat) (s : List UInt8) (w : World) (hi : i < 65536) (hf : fl ≤ 1) (hs : s.length ≤ 58) : Fx Tryz.prog 89 [iv i, iv fl, str s] w (Pure w (str (rblk i fl s))) := by
  refine Fx.of (L0 := []) Tryz.func89 rfl (by kernel_rfl) Tryz.ntmps89 rfl (Owns.nil w) ?_
  have hbl := be_len i 2
  obtain ⟨c1, hc1⟩ : ∃ c : UInt8, c.toNat = fl := ⟨UInt8.ofNat fl, by rw [UInt8.toNat_ofNat']; omega⟩
  obtain ⟨c2, hc2⟩ : ∃ c : UInt8, c.toNat = s.length := ⟨UInt8.ofNat s.length, by rw [UInt8.toNat_ofNat']; omega⟩
  have e : rblk i fl s = be i 2 ++ [c1, c2] ++ s ++ zbytes (58 - s.length) ++ be i 2 := by
    unfold rblk
    have e1 : be fl 1 = [c1] := by
      rw [← hc1]; unfold be be; rw [Nat.pow_zero, Nat.div_one]; congr 1
      apply UInt8.toNat_inj.1; rw [UInt8.toNat_ofNat']; have := c1.toNat_lt; omega
    have e2 : be s.length 1 = [c2] := by
      rw [← hc2]; unfold be be; rw [Nat.pow_zero, Nat.div_one]; congr 1
      apply UInt8.toNat_inj.1; rw [UInt8.toNat_ofNat']; have := c2.toNat_lt; omega
    rw [e1, e2]; simp
  rw [e]
  clear e
  have hzl : (zbytes (58 - s.length)).length = 58 - s.length := zbytes_len _
  have hone : (bcells (zbytes (58 - s.length))) = zerosL [.int .u8 0] (58 - s.length) := by
    rw [zerosL_one]; unfold bcells zbytes; rw [List.map_replicate]; rfl
  refine go (k := ?_)
  refine XL.q (.call (v := str (be i 2)) rfl rfl fun _ w _ => r13fixed_ok i 2 w (by omega) (by decide)) rfl ?_
  subst hc1
  refine go (k := ?_)
  rw [show ((s.length : Nat) : Int) = ((c2.toNat : Nat) : Int) by rw [hc2]]
  refine XD.make (.bslice rfl rfl rfl rfl rfl rfl) rfl rfl ?_
  refine XD.look (v := str [c1, c2]) (.head _) rfl (fun u H hu => ?_) rfl ?_
  · obtain ⟨b, rfl, rfl⟩ := hu
    exact .bytesStr (m := 2) (l := [c1, c2]) rfl rfl rfl rfl (.blk (.head _) rfl (by decide) rfl)
  have hl1 : (be i 2 ++ [c1, c2]).length = 4 := by rw [List.length_append, hbl]; rfl
  have hl2 : (be i 2 ++ [c1, c2] ++ s).length = 4 + s.length := by rw [List.length_append, hl1]
  have hl3 : (be i 2 ++ [c1, c2] ++ s ++ zbytes (58 - s.length)).length = 62 := by rw [List.length_append, hl2, hzl]; omega
  refine go (k := ?_)
  rw [show (58 : Int) - ((s.length : Nat) : Int) = ((58 - s.length : Nat) : Int) by omega]
  refine XD.make (.mslice (len := 58 - s.length) (cap := 58 - s.length) rfl rfl rfl rfl rfl (Nat.le_refl _) (by omega) (by omega)) rfl rfl ?_
  refine XD.look (v := str (zbytes (58 - s.length))) (.head _) rfl (fun u H hu => ?_) rfl ?_
  · obtain ⟨b, rfl, rfl⟩ := hu
    exact .bytesStr (m := 58 - s.length) (l := zbytes (58 - s.length)) rfl rfl rfl rfl (.blk (.head _) (by rw [bcells_len, zbytes_len, Nat.mul_one]) (Nat.le_refl _) (by rw [hone, cut_some (by rw [Nat.zero_add]; exact Nat.le_refl _), List.drop_zero]; exact congrArg some List.take_length))
  refine go (k := ?_)
  refine XD.nilF (by decide +kernel) ?_
  refine go (k := ?_)
  exact XE.ret1 () [] rfl rfl trivial rfl rfl rfl
abbrev r13Cs (bl : Nat) (g : Rg) : List Value := [ptr bl, iv g.at_, iv g.n, iv g.used, .bool g.broken]
abbrev r13X (bq bl bd : Nat) (fv rv cv : Value) (cut : Int) (g : Rg) (x : Ln) : Heap := .blk bq (r13Cs bl g) 98 :: rlG bl bd fv rv cv cut x
end Go.X
/- Package revertref13: There, Format, Append, Flush, Seal, Left. -/
namespace Go.X
open Go Go.Proofs Go.RowKit
theorem rlG_dev {bl bd : Nat} {fv rv cv : Value} {cut : Int} {x : Ln} {w : World} (ho : Owns w (rlG bl bd fv rv cv cut x)) : ∃ ao c, fv = .slice ao x.ds.length c ∧ w.heap[bd]? = some (.cells [fv, rv].toArray 87 (0, 0)) := by
  have hG := ho.grp (.tail _ (.head _))
  obtain ⟨ao, n, c, h0, h1, _, _⟩ := (hG.ok _ (.tail _ (.head _)) : SlOk w fv _ 1 _)
  have hn : n = x.ds.length := by simpa using h1
  subst hn
  exact ⟨ao, c, h0, hG.ok _ (.head _)⟩
theorem r13there_ok (bl bd : Nat) (fv rv cv : Value) (cut : Int) (x : Ln) (a n : Int) (w : World) (hn : x.ds.length ≤ 100000) (ho : Owns w (rlG bl bd fv rv cv cut x)) :
    Fx Tryz.prog 44 [ptr bl, iv a, iv n] w (Pure w (.bool (decide (thr x.ds.length a n = 0)))) := by
  obtain ⟨ao, c, rfl, hd⟩ := rlG_dev ho
  have hb : w.heap[bl]? = some (.cells (rlCs bd cut cv x.acts x.down).toArray _ (0, 0)) := ho.ok _ (.head _)
  have hB : bl ∉ ids ([] : Heap) := by simp [X.ids]
  have hB2 : bd ∉ ids ([] : Heap) := by simp [X.ids]
  have h0 : (rlCs bd cut cv x.acts x.down)[0 + 0]? = some (ptr bd) := rfl
  have h1 : [Value.slice ao x.ds.length c, rv][0 + 0]? = some (.slice ao x.ds.length c) := rfl
  have hT : (0 ≤ a ∧ 2 ≤ n ∧ n ≤ 65536 ∧ a ≤ (x.ds.length : Int) ∧ n ≤ (x.ds.length : Int) - a) → decide (thr x.ds.length a n = 0) = true := fun h => by
    apply decide_eq_true; unfold thr; rw [if_neg (by omega)]
  have hF : ¬ (0 ≤ a ∧ 2 ≤ n ∧ n ≤ 65536 ∧ a ≤ (x.ds.length : Int) ∧ n ≤ (x.ds.length : Int) - a) → decide (thr x.ds.length a n = 0) = false := fun h => by
    apply decide_eq_false; unfold thr; rw [if_pos (by omega)]; decide
  refine Fx.of (L0 := []) Tryz.func44 rfl (by kernel_rfl) Tryz.ntmps44 rfl (Owns.nil w) ?_
  by_cases c1 : 0 ≤ a
  · by_cases c2 : 2 ≤ n
    · by_cases c3 : n ≤ 65536
      · by_cases c4 : a ≤ (x.ds.length : Int)
        · by_cases c5 : n ≤ (x.ds.length : Int) - a
          · rw [hT ⟨c1, c2, c3, c4, c5⟩]
            clear hT hF
            refine go (k := ?_)
            refine XE.ret1 () [] rfl rfl trivial ?_ rfl rfl
            simp [c5]
          · rw [hF (fun h => c5 h.2.2.2.2)]
            clear hT hF
            refine go (k := ?_)
            refine XE.ret1 () [] rfl rfl trivial ?_ rfl rfl
            simp [c5]
        · rw [hF (fun h => c4 h.2.2.2.1)]
          clear hT hF
          refine go (k := ?_)
          refine XE.ret1 () [] rfl rfl trivial ?_ rfl rfl
          simp
      · rw [hF (fun h => c3 h.2.2.1)]
        clear hT hF
        refine go (k := ?_)
        refine XE.ret1 () [] rfl rfl trivial ?_ rfl rfl
        simp
    · rw [hF (fun h => c2 h.2.1)]
      clear hT hF
      refine go (k := ?_)
      refine XE.ret1 () [] rfl rfl trivial ?_ rfl rfl
      simp
  · rw [hF (fun h => c1 h.1)]
    clear hT hF
    refine go (k := ?_)
    refine XE.ret1 () [] rfl rfl trivial ?_ rfl rfl
    simp
theorem r13format_bad (bl bd : Nat) (fv rv cv : Value) (cut : Int) (x : Ln) (a n : Int) (w : World) (hn : x.ds.length ≤ 100000) (ht : thr x.ds.length a n ≠ 0) (ho : Owns w (rlG bl bd fv rv cv cut x)) :
    Fx Tryz.prog 13 [ptr bl, iv a, iv n] w (Pure w (.tuple #[.pointer none, iv 2])) := by
  have hown : ∀ w', Kept [] w w' → Owns w' (rlG bl bd fv rv cv cut x) := fun w' k => ho.of_kept k (fun _ _ h => by cases h)
  refine Fx.of (L0 := []) Tryz.func13 rfl (by kernel_rfl) Tryz.ntmps13 rfl (Owns.nil w) ?_
  refine go (k := ?_)
  refine XL.q (.call (v := .bool false) rfl rfl fun _ w' hs => by
    have := r13there_ok bl bd fv rv cv cut x a n w' hn (hown w' hs.kept)
    rw [decide_eq_false ht] at this; exact this) rfl ?_
  refine go (k := ?_)
  exact XE.ret2 () [] rfl rfl rfl trivial rfl rfl rfl
set_option maxHeartbeats 1000000 in
theorem r13format_ok (bl bd : Nat) (fv rv cv : Value) (cut : Int) (ch : List Int) (x : Ln) (a n m : Nat) (w : World) (hx : LIn m 100000 x) (hm0 : 0 < m) (hm : m ≤ 100000) (ht : thr m a n = 0) (hn : n ≤ 65536)
    (hl : ch.length ≤ 1000000) (hw : ∀ a ∈ ch, -9223372036854775808 ≤ a ∧ a ≤ 9223372036854775807) (hv : ∀ w', Kept (ids (rlG bl bd fv rv cv cut x)) w w' → RowAt w' cv 1 ch.length (ivs ch)) (ho : Owns w (rlG bl bd fv rv cv cut x)) :
    Fx Tryz.prog 13 [ptr bl, iv a, iv n] w (Ret w (rlG bl bd fv rv cv cut x) (fun y : Nat × Value => .tuple #[if (fmt cut ch a n x).1 = 0 then ptr y.1 else .pointer none, iv (fmt cut ch a n x).1])
      (fun y => (if (fmt cut ch a n x).1 = 0 then [.blk y.1 (r13Cs bl ⟨a, n, 0, false⟩) 98] else []) ++ rlG bl bd fv y.2 cv cut (fmt cut ch a n x).2) (fun _ => True)) := by
  have hlen : (a : Int) + n ≤ 200000 := by
    unfold thr at ht
    split at ht
    · cases ht
    · omega
  have hr : ∀ L : Heap, Rd w (ids (rlG bl bd fv rv cv cut x)) L cv 1 ch.length (ivs ch) := fun L w' _ hk' => hv w' hk'
  refine Fx.of Tryz.func13 rfl (by kernel_rfl) Tryz.ntmps13 rfl ho ?_
  refine go (k := ?_)
  refine XL.q (.call (v := .bool true) rfl rfl fun _ w' hs => by
    have := r13there_ok bl bd fv rv cv cut x a n w' (by rw [hx.len]; exact hm) hs.own
    rw [hx.len, ht] at this; exact this) rfl ?_
  refine go (k := ?_)
  refine XC.loop (α := Nat × Ln × Value) (fun y => [(0, ptr bl), (1, iv a), (2, iv n), (8, iv y.1)]) (fun y => rlG bl bd fv y.2.2 cv cut y.2.1) (fun y => y.1 ≤ n ∧ wrs cut ch ((fmtl a n).take y.1) x = (0, y.2.1)) (fun y => n - y.1) (0, x, rv) [0, 1] ⟨Nat.zero_le _, rfl⟩ ⟨rfl, rfl, rfl, rfl, trivial⟩ rfl rfl ?_
  rintro ⟨k, y, rv1⟩ ⟨hk, hy⟩
  simp only at hk hy ⊢
  have hyi : LIn m (100000 + k) y := by
    have := LIn.wrs (cut := cut) (ch := ch) ((fmtl a n).take k) hx
    rw [hy, List.length_take, fmtl_len, Nat.min_eq_left hk] at this
    exact this
  have hya := hyi.acts
  by_cases hlt : k < n
  · have hsn : wrs cut ch ((fmtl a n).take (k + 1)) x = y.write cut ch (a + k) [] := by
      rw [take_snoc (fmtl_at (a : Int) hlt), wrs_snoc _ _ _ (by rw [hy]), hy]
    refine go (k := ?_)
    refine XL.call [0, 1] [] rfl rfl rfl rfl rfl (fun _ w1 hs ho => rlwrite_ok bl bd fv rv1 cv cut ch y (a + k) [] hyi.ok (by rw [hyi.len]; exact hm0) (by rw [hyi.len]; exact hm) (by omega) hl hw w1 (fun w' hk' => hv w' (hs.keptTo hk' (fun _ h => h))) ho) fun rv2 _ => ?_
    obtain ⟨r, hrr⟩ : ∃ r, r = y.write cut ch (a + k) [] := ⟨_, rfl⟩
    rw [← hrr] at hsn ⊢
    obtain ⟨e1, y1⟩ := r
    simp only
    refine XL.nm (M := rlG bl bd fv rv2 cv cut y1) ?_ (by simp [X.pick])
    by_cases he : e1 = 0
    · subst he
      refine go (k := ?_)
      exact XE.mid (k + 1, y1, rv2) [0, 1] ⟨⟨by simp only; omega, hsn⟩, by simp only; omega⟩ ⟨rfl, rfl, rfl, rfl, trivial⟩ rfl rfl
    · have hall : fmt cut ch a n x = (e1, y1) := by
        have h1 : wrs cut ch (fmtl a n) x = (e1, y1) := by
          rw [← List.take_append_drop (k + 1) (fmtl a n), wrs_stop _ _ _ (by rw [hsn]; exact he), hsn]
        unfold fmt
        rw [h1, if_pos he]
      rw [hall]
      refine go (k := ?_)
      refine XE.ret2 (0, rv2) [0, 1] rfl rfl rfl trivial ?_ rfl ?_
      · simp [he]
      · simp [he, X.pick]
  · obtain rfl : k = n := by omega
    rw [List.take_of_length_le (by rw [fmtl_len]; exact Nat.le_refl _)] at hy
    refine go (k := ?_)
    refine XL.call [0, 1] [] rfl rfl rfl rfl rfl (fun _ w1 hs ho => rlflush_ok bl bd fv rv1 cv cut ch y hyi.ok (by rw [hyi.len]; exact hm) (by omega) hl hw w1 (fun w' hk' => hv w' (hs.keptTo hk' (fun _ h => h))) ho) fun rv2 _ => ?_
    have hall : fmt cut ch a k x = y.flush cut ch := by unfold fmt; rw [hy, if_neg (by simp)]
    rw [hall]
    obtain ⟨r, hrr⟩ : ∃ r, r = y.flush cut ch := ⟨_, rfl⟩
    rw [← hrr]
    obtain ⟨e1, y1⟩ := r
    simp only
    refine XL.nm (M := rlG bl bd fv rv2 cv cut y1) ?_ (by simp [X.pick])
    by_cases he : e1 = 0
    · subst he
      refine go (k := ?_)
      refine XL.box (zs := r13Cs bl ⟨a, k, 0, false⟩) rfl rfl rfl fun bq => ?_
      refine go (k := ?_)
      exact XE.ret2 (bq, rv2) [0, 1, 2] rfl rfl rfl trivial rfl rfl rfl
    · refine go (k := ?_)
      refine XE.ret2 (0, rv2) [0, 1] rfl rfl rfl trivial ?_ rfl ?_
      · simp [he]
      · simp [he, X.pick]
theorem r13left_at (bq bl : Nat) (g : Rg) (t : TypeId) (fz : Nat × Nat) (w : World) (hg : g.n ≤ 1000000 ∧ g.used ≤ 1000000) (hb : w.heap[bq]? = some (.cells (r13Cs bl g).toArray t fz)) : Fx Tryz.prog 19 [ptr bq] w (Pure w (iv ((g.n : Int) - 1 - g.used))) := by
  obtain ⟨a, n, used, broken⟩ := g
  simp only at hg
  have hB : bq ∉ ids ([] : Heap) := by simp [X.ids]
  have h2 : (r13Cs bl ⟨a, n, used, broken⟩)[0 + 2]? = some (iv n) := rfl
  have h3 : (r13Cs bl ⟨a, n, used, broken⟩)[0 + 3]? = some (iv used) := rfl
  refine Fx.of (L0 := []) Tryz.func19 rfl (by kernel_rfl) Tryz.ntmps19 rfl (Owns.nil w) ?_
  refine go (k := ?_)
  exact XE.ret1 () [] rfl rfl trivial rfl rfl rfl
section
variable (bq bl bd : Nat) (fv rv cv : Value) (cut : Int) (ch : List Int) (g : Rg) (x : Ln) (m : Nat) (w : World)
theorem r13flush_ok (hx : LIn m 900000 x) (hm : m ≤ 100000) (hl : ch.length ≤ 1000000) (hw : ∀ a ∈ ch, -9223372036854775808 ≤ a ∧ a ≤ 9223372036854775807) (hv : ∀ w', Kept (ids (r13X bq bl bd fv rv cv cut g x)) w w' → RowAt w' cv 1 ch.length (ivs ch)) (ho : Owns w (r13X bq bl bd fv rv cv cut g x)) :
    Fx Tryz.prog 57 [ptr bq] w (Ret w (r13X bq bl bd fv rv cv cut g x) (fun _ : Value => iv (g.flush cut ch x).1) (fun rv' => r13X bq bl bd fv rv' cv cut (g.flush cut ch x).2.1 (g.flush cut ch x).2.2) (fun _ => True)) := by
  have ha := hx.acts
  obtain ⟨at_, gn, used, broken⟩ := g
  refine Fx.of Tryz.func57 rfl (by kernel_rfl) Tryz.ntmps57 rfl ho ?_
  cases broken with
  | true =>
    have e : Rg.flush cut ch ⟨at_, gn, used, true⟩ x = (17, ⟨at_, gn, used, true⟩, x) := by unfold Rg.flush; rw [if_pos rfl]
    rw [e]
    refine go (k := ?_)
    exact XE.ret1 rv [0, 1, 2] rfl rfl trivial rfl rfl rfl
  | false =>
    have e : Rg.flush cut ch ⟨at_, gn, used, false⟩ x = ((x.flush cut ch).1, Rg.did ⟨at_, gn, used, false⟩ (x.flush cut ch).1, (x.flush cut ch).2) := by unfold Rg.flush; rw [if_neg (by simp)]
    rw [e]
    obtain ⟨r, hrr⟩ : ∃ r, r = x.flush cut ch := ⟨_, rfl⟩
    refine go (k := ?_)
    refine XL.call [1, 2] [0] rfl rfl rfl rfl rfl (fun _ w1 hs ho => rlflush_ok bl bd fv rv cv cut ch x hx.ok (by rw [hx.len]; exact hm) (by omega) hl hw w1 (fun w' hk' => hv w' (hs.keptTo hk' (fun b hb => by rw [X.ids]; exact List.mem_append_right _ hb))) ho) fun rv2 _ => ?_
    rw [← hrr]
    obtain ⟨e1, y1⟩ := r
    simp only
    refine XL.pk (M := r13X bq bl bd fv rv2 cv cut ⟨at_, gn, used, false⟩ y1) [2, 0, 1] (by decide) rfl ?_
    by_cases he : e1 = 0
    · subst he
      refine go (k := ?_)
      exact XE.ret1 rv2 [0, 1, 2] rfl rfl trivial rfl rfl rfl
    · refine go (k := ?_)
      refine XE.ret1 rv2 [0, 1, 2] rfl rfl trivial rfl rfl ?_
      simp [Rg.did, he, X.pick]
end
end Go.X
