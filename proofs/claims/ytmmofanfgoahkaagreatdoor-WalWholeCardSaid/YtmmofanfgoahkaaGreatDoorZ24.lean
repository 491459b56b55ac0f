/- Package revertref13: Append, Header, Seal. -/
import Derived.Test.YtmmofanfgoahkaaGreatDoorZ23
import Derived.Test.YtmmofanfgoahkaaGreatDoorZ18
namespace Go.X
open Go Go.Proofs Go.RowKit
theorem r13header_ok (gen : Nat) (w : World) (hg : gen < 4294967296) : Fx Tryz.prog 88 [.int .u32 gen] w (Pure w (str (hblk gen))) := by
  have hbl := be_len gen 4
  have hzl : (zbytes 56).length = 56 := zbytes_len 56
  have hone : bcells (zbytes 56) = zerosL [.int .u8 0] 56 := by kernel_rfl
  have e : hblk gen = be gen 4 ++ zbytes 56 ++ be gen 4 := by unfold hblk; simp
  rw [e]
  clear e
  refine Fx.of (L0 := []) Tryz.func88 rfl (by kernel_rfl) Tryz.ntmps88 rfl (Owns.nil w) ?_
  refine go (k := ?_)
  refine XL.q (.call (v := str (be gen 4)) rfl rfl fun _ w _ => r13fixed_ok gen 4 w hg (by decide)) rfl ?_
  refine go (k := ?_)
  refine XL.make (.mslice (len := 56) (cap := 56) rfl rfl rfl rfl rfl (Nat.le_refl _) (by decide) (by decide)) rfl fun _ _ hv => ?_
  obtain ⟨bz, rfl, rfl⟩ := hv
  refine go (k := ?_)
  refine XL.q (.bytesStr (l := zbytes 56) (m := 56) rfl rfl rfl rfl (.blk (.head _) (by rw [bcells_len, zbytes_len]) (Nat.le_refl _) (by rw [hone]; kernel_rfl))) rfl ?_
  have hl1 : (be gen 4 ++ zbytes 56).length = 60 := by rw [List.length_append, hbl, hzl]
  refine go (k := ?_)
  exact XE.ret1 () [] rfl rfl trivial rfl rfl rfl
section
variable (bq bl bd : Nat) (fv rv cv : Value) (cut : Int) (ch : List Int) (g : Rg) (x : Ln) (m : Nat) (w : World)
set_option maxHeartbeats 1000000 in
theorem r13seal_ok (gen : Nat) (hx : LIn m 800000 x) (hm0 : 0 < m) (hm : m ≤ 100000) (hg : gen < 4294967296) (hl : ch.length ≤ 1000000) (hw : ∀ a ∈ ch, -9223372036854775808 ≤ a ∧ a ≤ 9223372036854775807) (hv : ∀ w', Kept (ids (r13X bq bl bd fv rv cv cut g x)) w w' → RowAt w' cv 1 ch.length (ivs ch)) (ho : Owns w (r13X bq bl bd fv rv cv cut g x)) :
    Fx Tryz.prog 59 [ptr bq, .int .u32 gen] w (Ret w (r13X bq bl bd fv rv cv cut g x) (fun _ : Value => iv (g.sealG cut ch gen x).1) (fun rv' => r13X bq bl bd fv rv' cv cut (g.sealG cut ch gen x).2.1 (g.sealG cut ch gen x).2.2) (fun _ => True)) := by
  have ha := hx.acts
  obtain ⟨at_, gn, used, broken⟩ := g
  refine Fx.of Tryz.func59 rfl (by kernel_rfl) Tryz.ntmps59 rfl ho ?_
  by_cases h0 : gen = 0
  · have e : Rg.sealG cut ch gen ⟨at_, gn, used, broken⟩ x = (2, ⟨at_, gn, used, broken⟩, x) := by unfold Rg.sealG; rw [if_pos h0]
    rw [e]
    subst h0
    refine go (k := ?_)
    exact XE.ret1 rv [0, 1, 2] rfl rfl trivial rfl rfl rfl
  have h0' : ¬ (gen : Int) = 0 := by omega
  cases broken with
  | true =>
    have e : Rg.sealG cut ch gen ⟨at_, gn, used, true⟩ x = (17, ⟨at_, gn, used, true⟩, x) := by unfold Rg.sealG; rw [if_neg h0, if_pos rfl]
    rw [e]
    refine go (k := ?_)
    exact XE.ret1 rv [0, 1, 2] rfl rfl trivial rfl rfl rfl
  | false =>
    have e : Rg.sealG cut ch gen ⟨at_, gn, used, false⟩ x = if (x.write cut ch at_ (hblk gen)).1 ≠ 0 then ((x.write cut ch at_ (hblk gen)).1, Rg.did ⟨at_, gn, used, false⟩ (x.write cut ch at_ (hblk gen)).1, (x.write cut ch at_ (hblk gen)).2) else (Rg.did ⟨at_, gn, used, false⟩ 0).flush cut ch (x.write cut ch at_ (hblk gen)).2 := by
      unfold Rg.sealG; rw [if_neg h0, if_neg (by simp)]
    rw [e]
    have hxi := hx.write cut ch at_ (hblk gen)
    obtain ⟨r, hrr⟩ : ∃ r, r = x.write cut ch at_ (hblk gen) := ⟨_, rfl⟩
    have hwr : ∀ w1, (∀ w', Kept (ids (rlG bl bd fv rv cv cut x)) w1 w' → RowAt w' cv 1 ch.length (ivs ch)) → Owns w1 (rlG bl bd fv rv cv cut x) → Fx Tryz.prog 16 [ptr bl, iv at_, str (hblk gen)] w1 (Ret w1 (rlG bl bd fv rv cv cut x) (fun _ : Value => iv r.1) (fun rv2 => rlG bl bd fv rv2 cv cut r.2) (fun _ => True)) := fun w1 hv ho => by
      have := rlwrite_ok bl bd fv rv cv cut ch x at_ (hblk gen) hx.ok (by rw [hx.len]; exact hm0) (by rw [hx.len]; exact hm) (by omega) hl hw w1 hv ho
      rw [← hrr] at this; exact this
    rw [← hrr] at hxi ⊢
    clear hrr
    obtain ⟨e1, y1⟩ := r
    simp only at hxi hwr ⊢
    refine XC.pk (M := rlG bl bd fv rv cv cut x ++ [.blk bq (r13Cs bl ⟨at_, gn, used, false⟩) 98]) [1, 2, 0] (by decide) rfl ?_
    refine goD (k := ?_)
    refine XC.drawM (C0 := rlG bl bd fv rv cv cut x) (L := [.blk bq (r13Cs bl ⟨at_, gn, used, false⟩) 98]) Tab.mix ?_
    refine go (k := ?_)
    refine XD.q (.call (v := str (hblk gen)) rfl rfl fun _ w _ => r13header_ok gen w hg) rfl ?_
    refine go (k := ?_)
    refine XD.mut (.call rfl rfl fun _ w1 hs ho => hwr w1 (fun w' hk' => hv w' (hs.keptTo hk' (fun b hb => by rw [ids_append]; exact List.mem_append_left _ hb))) ho) rfl rfl ?_
    refine XD.tail1 rfl (by decide +kernel) ?_
    rintro v H ⟨rv2, _, rfl, rfl⟩
    refine XL.pk (M := r13X bq bl bd fv rv2 cv cut ⟨at_, gn, used, false⟩ y1) [2, 0, 1] (by decide) rfl ?_
    by_cases he : e1 = 0
    · subst he
      have hgd : Rg.did ⟨at_, gn, used, false⟩ 0 = ⟨at_, gn, used, false⟩ := by simp [Rg.did]
      rw [if_neg (by simp), hgd]
      refine go (k := ?_)
      refine XL.call [0, 1, 2] [] rfl rfl rfl rfl rfl (fun _ w1 hs ho => r13flush_ok bq bl bd fv rv2 cv cut ch ⟨at_, gn, used, false⟩ y1 m w1 ⟨hxi.ok, hxi.len, by have := hxi.acts; omega⟩ hm hl hw (fun w' hk' => hv w' (hs.keptTo hk' (fun _ h => h))) ho) fun rv3 _ => ?_
      refine go (k := ?_)
      exact XE.ret1 rv3 [0, 1, 2] rfl rfl trivial rfl rfl rfl
    · rw [if_pos he]
      refine go (k := ?_)
      refine XE.ret1 rv2 [0, 1, 2] rfl rfl trivial rfl rfl ?_
      simp [Rg.did, he, X.pick]
set_option maxHeartbeats 2000000 in
theorem r13append_ok (s : List UInt8) (hx : LIn m 700000 x) (hm0 : 0 < m) (hm : m ≤ 100000) (hs : s.length ≤ 100000) (hg : g.n ≤ 65536 ∧ g.used < g.n ∧ g.at_ ≤ 100000) (hl : ch.length ≤ 1000000) (hw : ∀ a ∈ ch, -9223372036854775808 ≤ a ∧ a ≤ 9223372036854775807) (hv : ∀ w', Kept (ids (r13X bq bl bd fv rv cv cut g x)) w w' → RowAt w' cv 1 ch.length (ivs ch)) (ho : Owns w (r13X bq bl bd fv rv cv cut g x)) :
    Fx Tryz.prog 55 [ptr bq, str s] w (Ret w (r13X bq bl bd fv rv cv cut g x) (fun _ : Value => iv (g.append cut ch s x).1) (fun rv' => r13X bq bl bd fv rv' cv cut (g.append cut ch s x).2.1 (g.append cut ch s x).2.2) (fun _ => True)) := by
  have ha := hx.acts
  obtain ⟨at_, gn, used, broken⟩ := g
  simp only at hg
  refine Fx.of Tryz.func55 rfl (by kernel_rfl) Tryz.ntmps55 rfl ho ?_
  cases broken with
  | true =>
    have e : Rg.append cut ch s ⟨at_, gn, used, true⟩ x = (17, ⟨at_, gn, used, true⟩, x) := by unfold Rg.append; rw [if_pos rfl]
    rw [e]
    refine go (k := ?_)
    exact XE.ret1 rv [0, 1, 2] rfl rfl trivial rfl rfl rfl
  | false =>
    refine go (k := ?_)
    refine XL.q (.call rfl rfl fun _ w _ => r13needs_ok s.length w (by omega)) rfl ?_
    refine go (k := ?_)
    refine XL.q (.call rfl rfl fun _ w hs => r13left_at bq bl ⟨at_, gn, used, false⟩ _ _ w ⟨by simp only; omega, by simp only; omega⟩ (hs.own.ok _ (.head _))) rfl ?_
    have hnd : nd s.length ≤ 100001 := by have := nd_le s.length; omega
    by_cases hfull : gn < nd s.length + 1 + used
    · have e : Rg.append cut ch s ⟨at_, gn, used, false⟩ x = (7, ⟨at_, gn, used, false⟩, x) := by unfold Rg.append; rw [if_neg (by simp), if_pos hfull]
      rw [e]
      have hf' : (gn : Int) - 1 - (used : Int) < (nd s.length : Int) := by omega
      refine go (k := ?_)
      exact XE.ret1 rv [0, 1, 2] rfl rfl trivial rfl rfl rfl
    have hf' : ¬ (gn : Int) - 1 - (used : Int) < (nd s.length : Int) := by omega
    obtain ⟨G, hG⟩ : ∃ G : Rg, G = ⟨at_, gn, used, false⟩ := ⟨_, rfl⟩
    have hGa : G.at_ = at_ := by rw [hG]
    have hGu : G.used = used := by rw [hG]
    refine go (k := ?_)
    refine XC.loop (α := Nat × Ln × Value) (fun y => [(0, ptr bq), (1, str s), (5, iv (nd s.length)), (6, iv y.1)]) (fun y => r13X bq bl bd fv y.2.2 cv cut ⟨at_, gn, used, false⟩ y.2.1) (fun y => y.1 ≤ nd s.length ∧ wrs cut ch ((apl G s).take y.1) x = (0, y.2.1)) (fun y => nd s.length - y.1) (0, x, rv) [0, 1, 2] ⟨Nat.zero_le _, rfl⟩ ⟨rfl, rfl, rfl, rfl, trivial⟩ rfl rfl ?_
    rintro ⟨k, y, rv1⟩ ⟨hk, hy⟩
    simp only at hk hy ⊢
    have hyi : LIn m (700000 + k) y := by
      have := LIn.wrs (cut := cut) (ch := ch) ((apl G s).take k) hx
      rw [hy, List.length_take, apl_len, Nat.min_eq_left hk] at this
      exact this
    have hya := hyi.acts
    by_cases hlt : k < nd s.length
    · obtain ⟨g1, g2, g3, g4⟩ := gend_bd hlt
      have hpl := gpc_len hlt
      have hat := apl_at G hlt
      rw [hGa, hGu] at hat
      have hsn : wrs cut ch ((apl G s).take (k + 1)) x = y.write cut ch ((at_ : Int) + ((used + 1 + k : Nat) : Int)) (gblk (used + 1) s k) := by
        rw [take_snoc hat, wrs_snoc _ _ _ (by rw [hy]), hy]
      obtain ⟨r, hrr⟩ : ∃ r, r = y.write cut ch ((at_ : Int) + ((used + 1 + k : Nat) : Int)) (gblk (used + 1) s k) := ⟨_, rfl⟩
      have hwr : ∀ w1, (∀ w', Kept (ids (rlG bl bd fv rv1 cv cut y)) w1 w' → RowAt w' cv 1 ch.length (ivs ch)) → Owns w1 (rlG bl bd fv rv1 cv cut y) → Fx Tryz.prog 16 [ptr bl, iv ((at_ : Int) + ((used + 1 + k : Nat) : Int)), str (gblk (used + 1) s k)] w1 (Ret w1 (rlG bl bd fv rv1 cv cut y) (fun _ : Value => iv r.1) (fun rv2 => rlG bl bd fv rv2 cv cut r.2) (fun _ => True)) := fun w1 hv ho => by
        have := rlwrite_ok bl bd fv rv1 cv cut ch y ((at_ : Int) + ((used + 1 + k : Nat) : Int)) (gblk (used + 1) s k) hyi.ok (by rw [hyi.len]; exact hm0) (by rw [hyi.len]; exact hm) (by omega) hl hw w1 hv ho
        rw [← hrr] at this; exact this
      rw [← hrr] at hsn
      clear hrr
      obtain ⟨e1, y1⟩ := r
      simp only at hsn hwr
      have hbk : ∀ w, Fx Tryz.prog 89 [iv ((used + 1 + k : Nat) : Int), iv (gfl s.length k : Nat), str (gpc s k)] w (Pure w (str (gblk (used + 1) s k))) := fun w => r13block_ok (used + 1 + k) (gfl s.length k) (gpc s k) w (by omega) (by unfold gfl; split <;> decide) hpl
      clear hat hyi hy
      refine XC.pk (M := rlG bl bd fv rv1 cv cut y ++ [.blk bq (r13Cs bl ⟨at_, gn, used, false⟩) 98]) [1, 2, 0] (by decide) rfl ?_
      by_cases hlast : k + 1 = nd s.length
      · have hl' : (k : Int) = (nd s.length : Int) - 1 := by omega
        have ef : gfl s.length k = 1 := by unfold gfl; rw [if_pos hlast]
        have eg : gend s.length k = s.length := by unfold gend; rw [if_pos hlast]
        rw [ef] at hbk
        refine goD (k := ?_)
        refine XC.drawM (C0 := rlG bl bd fv rv1 cv cut y) (L := [.blk bq (r13Cs bl ⟨at_, gn, used, false⟩) 98]) Tab.mix ?_
        refine go (k := ?_)
        rw [show (k : Int) * 58 = ((k * 58 : Nat) : Int) by omega, show (used : Int) + 1 + (k : Int) = ((used + 1 + k : Nat) : Int) by omega]
        refine go (k := ?_)
        rw [show (s.take s.length).drop (k * 58) = gpc s k by unfold gpc; rw [eg]]
        refine XD.q (.call rfl rfl fun _ w _ => hbk w) rfl ?_
        refine go (k := ?_)
        refine XD.mut (.call rfl rfl fun _ w1 hs ho => hwr w1 (fun w' hk' => hv w' (hs.keptTo hk' (fun b hb => by rw [ids_append]; exact List.mem_append_left _ hb))) ho) rfl rfl ?_
        refine XD.tail1 rfl (by decide +kernel) ?_
        rintro v H ⟨rv2, _, rfl, rfl⟩
        refine XL.pk (M := r13X bq bl bd fv rv2 cv cut ⟨at_, gn, used, false⟩ y1) [2, 0, 1] (by decide) rfl ?_
        by_cases he : e1 = 0
        · subst he
          refine go (k := ?_)
          exact XE.mid (k + 1, y1, rv2) [0, 1, 2] ⟨⟨hlt, hsn⟩, by simp only; omega⟩ ⟨rfl, rfl, rfl, rfl, trivial⟩ rfl rfl
        · have hall : wrs cut ch (apl G s) x = (e1, y1) := by
            rw [← List.take_append_drop (k + 1) (apl G s), wrs_stop _ _ _ (by rw [hsn]; exact he), hsn]
          have e : Rg.append cut ch s ⟨at_, gn, used, false⟩ x = (e1, ⟨at_, gn, used, true⟩, y1) := by
            unfold Rg.append; rw [if_neg (by simp), if_neg hfull, ← hG, hall, if_pos he, hG]; simp [Rg.did, he]
          rw [e]
          refine go (k := ?_)
          exact XE.ret1 rv2 [0, 1, 2] rfl rfl trivial rfl rfl rfl
      · have hl' : ¬ (k : Int) = (nd s.length : Int) - 1 := by omega
        have ef : gfl s.length k = 0 := by unfold gfl; rw [if_neg hlast]
        have eg : gend s.length k = (k + 1) * 58 := g4 hlast
        rw [ef] at hbk
        refine goD (k := ?_)
        refine XC.drawM (C0 := rlG bl bd fv rv1 cv cut y) (L := [.blk bq (r13Cs bl ⟨at_, gn, used, false⟩) 98]) Tab.mix ?_
        refine go (k := ?_)
        rw [show (k : Int) * 58 = ((k * 58 : Nat) : Int) by omega, show (used : Int) + 1 + (k : Int) = ((used + 1 + k : Nat) : Int) by omega]
        rw [show ((k : Int) + 1) * 58 = (((k + 1) * 58 : Nat) : Int) by omega]
        refine go (k := ?_)
        rw [show (s.take ((k + 1) * 58)).drop (k * 58) = gpc s k by unfold gpc; rw [eg]]
        refine XD.q (.call rfl rfl fun _ w _ => hbk w) rfl ?_
        refine go (k := ?_)
        refine XD.mut (.call rfl rfl fun _ w1 hs ho => hwr w1 (fun w' hk' => hv w' (hs.keptTo hk' (fun b hb => by rw [ids_append]; exact List.mem_append_left _ hb))) ho) rfl rfl ?_
        refine XD.tail1 rfl (by decide +kernel) ?_
        rintro v H ⟨rv2, _, rfl, rfl⟩
        refine XL.pk (M := r13X bq bl bd fv rv2 cv cut ⟨at_, gn, used, false⟩ y1) [2, 0, 1] (by decide) rfl ?_
        by_cases he : e1 = 0
        · subst he
          refine go (k := ?_)
          exact XE.mid (k + 1, y1, rv2) [0, 1, 2] ⟨⟨hlt, hsn⟩, by simp only; omega⟩ ⟨rfl, rfl, rfl, rfl, trivial⟩ rfl rfl
        · have hall : wrs cut ch (apl G s) x = (e1, y1) := by
            rw [← List.take_append_drop (k + 1) (apl G s), wrs_stop _ _ _ (by rw [hsn]; exact he), hsn]
          have e : Rg.append cut ch s ⟨at_, gn, used, false⟩ x = (e1, ⟨at_, gn, used, true⟩, y1) := by
            unfold Rg.append; rw [if_neg (by simp), if_neg hfull, ← hG, hall, if_pos he, hG]; simp [Rg.did, he]
          rw [e]
          refine go (k := ?_)
          exact XE.ret1 rv2 [0, 1, 2] rfl rfl trivial rfl rfl rfl
    · obtain rfl : k = nd s.length := by omega
      rw [List.take_of_length_le (by rw [apl_len]; exact Nat.le_refl _)] at hy
      have e : Rg.append cut ch s ⟨at_, gn, used, false⟩ x = (0, ⟨at_, gn, used + nd s.length, false⟩, y) := by
        unfold Rg.append; rw [if_neg (by simp), if_neg hfull, ← hG, hy, if_neg (by simp), hG]
      rw [e]
      refine go (k := ?_)
      exact XE.ret1 rv1 [0, 1, 2] rfl rfl trivial rfl rfl rfl
end
end Go.X
/- What the document's regions tell of a block is what the program's tell: plain facts. -/
namespace Go.X
open Go Go.Proofs
theorem be_add (c m n : Nat) : ∀ k, k ≤ m → be (c * 256 ^ m + n) k = be n k
  | 0, _ => rfl
  | k + 1, h => by
    unfold be
    rw [be_add c m n k (by omega)]
    congr 2
    obtain ⟨d, rfl⟩ : ∃ d, m = k + 1 + d := ⟨m - (k + 1), by omega⟩
    have e : c * 256 ^ (k + 1 + d) + n = n + 256 ^ k * (256 * (c * 256 ^ d)) := by
      rw [Nat.pow_add, Nat.pow_succ]
      have : c * (256 ^ k * 256 * 256 ^ d) = 256 ^ k * (256 * (c * 256 ^ d)) := by
        rw [Nat.mul_assoc, Nat.mul_left_comm, Nat.mul_left_comm c 256]
      rw [this, Nat.add_comm]
    rw [e, Nat.add_mul_div_left _ _ (Nat.pow_pos (by decide)), Nat.add_mul_mod_self_left]
theorem be_gnum : ∀ l : List UInt8, be (gnum l) l.length = l
  | [] => rfl
  | c :: l => by
    have hl : gnum l < 256 ^ l.length := gnum_lt l
    rw [gnum_cons, List.length_cons]
    unfold be
    rw [be_add c.toNat l.length (gnum l) l.length (Nat.le_refl _), be_gnum l]
    congr 1
    have hp : 0 < 256 ^ l.length := Nat.pow_pos (by decide)
    rw [Nat.mul_comm, Nat.mul_add_div hp, Nat.div_eq_of_lt hl, Nat.add_zero]
    apply UInt8.toNat_inj.1
    rw [UInt8.toNat_ofNat']
    have := c.toNat_lt
    omega
theorem be_gnum' {l : List UInt8} {n k : Nat} (hl : l.length = k) (h : gnum l = n) : be n k = l := by rw [← h, ← hl]; exact be_gnum l
theorem zeros_eq {l : List UInt8} {n : Nat} (hl : l.length = n) (h : Lib.trimB l 0 = []) : l = zbytes n := List.eq_replicate_iff.2 ⟨hl, trimB_nil.1 h⟩
theorem hdr_ref {s : List UInt8} (h : s.length = 64) : hdr s = if s = hblk (gnum (s.take 4)) then gnum (s.take 4) else 0 := by
  have hg : gnum (s.take 4) < 4294967296 := gnum_le4 _ (by rw [List.length_take]; omega)
  by_cases e : s = hblk (gnum (s.take 4))
  · rw [if_pos e]
    obtain ⟨g, hgg⟩ : ∃ g, g = gnum (s.take 4) := ⟨_, rfl⟩
    rw [← hgg] at e hg ⊢
    rw [e]; exact hdr_hblk hg
  · rw [if_neg e, hdr64 h, if_neg]
    rintro ⟨h1, h2⟩
    apply e
    have l1 : (s.take 4).length = 4 := by rw [List.length_take]; omega
    have l2 : ((s.drop 4).take 56).length = 56 := by rw [List.length_take, List.length_drop]; omega
    have l3 : ((s.drop 60).take 4).length = 4 := by rw [List.length_take, List.length_drop]; omega
    have e3 : (s.drop 60).take 4 = s.drop 60 := List.take_of_length_le (by rw [List.length_drop]; omega)
    unfold hblk
    rw [be_gnum' l1 rfl, List.nil_append, ← zeros_eq l2 h1]
    have e4 : s.take 4 = s.drop 60 := by
      have a1 := be_gnum' l1 rfl
      have a2 := be_gnum' l3 h2
      rw [← a1, ← e3]; exact a2
    conv => lhs; rw [← List.take_append_drop 60 s]
    rw [e4]
    congr 1
    rw [← e4]
    have : s.take 60 = s.take 4 ++ (s.drop 4).take 56 := by rw [show 60 = 4 + 56 from rfl, List.take_add]
    exact this
theorem at1 {s : List UInt8} {j : Nat} {c : UInt8} (h : s[j]? = some c) : (s.drop j).take 1 = [c] := by
  have hlt := (List.getElem?_eq_some_iff.1 h).1
  rw [List.drop_eq_getElem_cons hlt, (List.getElem?_eq_some_iff.1 h).2]; rfl
theorem gnum1 (c : UInt8) : gnum [c] = c.toNat := by simp [gnum]
theorem pce_bad {i : Nat} {s : List UInt8} {f k : UInt8} (h : s.length = 64) (hf : s[2]? = some f) (hk : s[3]? = some k) (hb : 1 < f.toNat ∨ 58 < k.toNat ∨ (f.toNat = 0 ∧ k.toNat < 58)) : (pce i s).2.2 = false := by
  rw [pce64 i h, at1 hf, at1 hk, gnum1, gnum1, if_pos]
  rcases hb with h | h | h
  · exact .inr (.inl h)
  · exact .inr (.inr (.inl h))
  · exact .inr (.inr (.inr h))
theorem pce_good {i : Nat} {s : List UInt8} {f k : UInt8} (h : s.length = 64) (hf : s[2]? = some f) (hk : s[3]? = some k) (hi : i < 65536) (hb : ¬ (1 < f.toNat ∨ 58 < k.toNat ∨ (f.toNat = 0 ∧ k.toNat < 58))) :
    (s = rblk i f.toNat ((s.take (4 + k.toNat)).drop 4) → pce i s = ((s.take (4 + k.toNat)).drop 4, decide (f.toNat = 1), true)) ∧ (s ≠ rblk i f.toNat ((s.take (4 + k.toNat)).drop 4) → (pce i s).2.2 = false) := by
  have htl : ((s.take (4 + k.toNat)).drop 4).length = k.toNat := by rw [List.length_drop, List.length_take]; omega
  obtain ⟨t, ht⟩ : ∃ t, t = (s.take (4 + k.toNat)).drop 4 := ⟨_, rfl⟩
  rw [← ht] at htl ⊢
  refine ⟨fun e => ?_, fun ne => ?_⟩
  · have := pce_rblk (i := i) (fl := f.toNat) (p := t) hi (by omega) (by omega) (by omega)
    rw [← e] at this; exact this
  · cases hw : (pce i s).2.2 with
    | false => rfl
    | true =>
      exfalso
      apply ne
      rw [pce64 i h, at1 hf, at1 hk, gnum1, gnum1] at hw
      split at hw
      · cases hw
      · rename_i hc
        simp only [decide_eq_true_eq] at hw
        obtain ⟨w1, w2⟩ := hw
        have g1 : gnum (s.take 2) = i := by
          rcases Nat.eq_or_lt_of_le (Nat.le_refl (gnum (s.take 2))) with _ | h
          · exact Classical.byContradiction fun hne => hc (.inl hne)
          · omega
        have l1 : (s.take 2).length = 2 := by rw [List.length_take]; omega
        have l2 : ((s.drop 62).take 2).length = 2 := by rw [List.length_take, List.length_drop]; omega
        have l3 : ((s.drop (4 + k.toNat)).take (58 - k.toNat)).length = 58 - k.toNat := by rw [List.length_take, List.length_drop]; omega
        have e1 := be_gnum' l1 g1
        have e2 := be_gnum' l2 w1
        have e3 := zeros_eq l3 w2
        have f1 : be f.toNat 1 = [f] := be_gnum' rfl (gnum1 f)
        have f2 : be k.toNat 1 = [k] := be_gnum' rfl (gnum1 k)
        unfold rblk
        rw [List.nil_append, f1, htl, f2, ← e3]
        have s1 : s.take 3 = s.take 2 ++ [f] := take_snoc hf
        have s2 : s.take 4 = s.take 3 ++ [k] := take_snoc hk
        have s3 : s.take (4 + k.toNat) = s.take 4 ++ t := by
          rw [ht]
          have : s.take 4 = (s.take (4 + k.toNat)).take 4 := by rw [List.take_take, Nat.min_eq_left (by omega)]
          rw [this, List.take_append_drop]
        have s4 : s.take 62 = s.take (4 + k.toNat) ++ (s.drop (4 + k.toNat)).take (58 - k.toNat) := by
          have : (62 : Nat) = 4 + k.toNat + (58 - k.toNat) := by omega
          conv => lhs; rw [this]
          rw [List.take_add]
        have s5 : s = s.take 62 ++ (s.drop 62).take 2 := by
          have : (s.drop 62).take 2 = s.drop 62 := List.take_of_length_le (by rw [List.length_drop]; omega)
          rw [this, List.take_append_drop]
        conv => lhs; rw [s5, s4, s3, s2, s1]
        rw [← e2, ← e1]
end Go.X
/- Package revertref13: Read, Same; revertref01's Reader so far. -/
namespace Go.X
open Go Go.Proofs Go.RowKit
abbrev r01B (b : Nat) (s : List UInt8) (k : Int) : Ent := .blk b [str s, iv k, iv 0] 140
theorem r01fixed_ok (b : Nat) (s : List UInt8) (w : World) (hs : s.length = 64) (ho : Owns w [r01B b s 0]) : Fx Tryz.prog 120 [ptr b, iv 4] w (Ret w [r01B b s 0] (fun _ : Unit => str (s.take 4)) (fun _ => [r01B b s 4]) (fun _ => True)) := by
  refine Fx.of Tryz.func120 rfl (by kernel_rfl) Tryz.ntmps120 rfl ho ?_
  have hs' : (s.length : Int) = 64 := by omega
  refine go (k := ?_)
  rw [show (0 : Int) + 4 - 4 = ((0 : Nat) : Int) by decide, show (0 : Int) + 4 = ((4 : Nat) : Int) by decide]
  refine go (k := ?_)
  exact XE.ret1 () [0] rfl rfl trivial (by simp) rfl rfl
theorem r01number_ok (b : Nat) (s : List UInt8) (w : World) (hs : s.length = 64) (ho : Owns w [r01B b s 0]) : Fx Tryz.prog 87 [ptr b, iv 4] w (Ret w [r01B b s 0] (fun _ : Unit => .int .u32 (gnum (s.take 4))) (fun _ => [r01B b s 4]) (fun _ => True)) := by
  refine Fx.of Tryz.func87 rfl (by kernel_rfl) Tryz.ntmps87 rfl ho ?_
  obtain ⟨t, ht⟩ : ∃ t, t = s.take 4 := ⟨_, rfl⟩
  have htl : t.length = 4 := by rw [ht, List.length_take]; omega
  refine go (k := ?_)
  refine XL.call [0] [] rfl rfl rfl rfl rfl (fun _ w _ ho => r01fixed_ok b s w hs ho) fun _ _ => ?_
  rw [← ht]
  refine XL.nm (M := [r01B b s 4]) ?_ rfl
  refine go (k := ?_)
  refine XC.loop (α := Nat) (fun i => [(5, str t), (6, .int .u32 (gnum (t.take i))), (7, iv i)]) (fun _ => [r01B b s 4]) (fun i => i ≤ 4) (fun i => 4 - i) 0 [0] (Nat.zero_le _) ⟨rfl, rfl, rfl, trivial⟩ rfl rfl ?_
  intro (i : Nat) (hi : i ≤ 4)
  by_cases hlt : i < 4
  · obtain ⟨c, hc⟩ : ∃ c, t[i]? = some c := ⟨_, List.getElem?_eq_getElem (by omega)⟩
    have hcl := c.toNat_lt
    have hg : gnum (t.take i) < 256 ^ (t.take i).length := gnum_lt _
    have hp : 256 ^ (t.take i).length ≤ 16777216 := by
      have e : (t.take i).length = i := by rw [List.length_take]; omega
      rw [e]
      rcases (by omega : i = 0 ∨ i = 1 ∨ i = 2 ∨ i = 3) with rfl | rfl | rfl | rfl <;> decide
    have hsn : gnum (t.take (i + 1)) = gnum (t.take i) * 256 + c.toNat := by rw [take_snoc hc, gnum_snoc]
    obtain ⟨q, hq⟩ : ∃ q, q = gnum (t.take i) := ⟨_, rfl⟩
    rw [← hq] at hg hsn ⊢
    have hq2 : q < 16777216 := by omega
    clear hg hp
    refine go (k := ?_)
    refine XE.mid (i + 1) [0] ⟨by omega, by omega⟩ ⟨rfl, gv rfl ?_, rfl, trivial⟩ rfl rfl
    rw [hsn]; congr 1; omega
  · obtain rfl : i = 4 := by omega
    have e : gnum (t.take 4) = gnum t := by rw [List.take_of_length_le (by omega)]
    rw [e]
    refine go (k := ?_)
    exact XE.ret1 () [0] rfl rfl trivial rfl rfl rfl
theorem drd_64 {ds : List Slot} (h : Oks ds) {k : Nat} (hk : k < ds.length) : (drd ds (k : Nat)).1.length = 64 := by
  rw [drd_rdk hk]
  unfold rdk
  rw [List.getD_eq_getElem?_getD, List.getElem?_eq_getElem hk]
  exact (h _ (List.getElem_mem hk)).2
theorem r13read_bad (bl bd : Nat) (fv rv cv : Value) (cut : Int) (x : Ln) (a n : Int) (w : World) (hn : x.ds.length ≤ 100000) (ht : thr x.ds.length a n ≠ 0) (ho : Owns w (rlG bl bd fv rv cv cut x)) :
    Fx Tryz.prog 47 [ptr bl, iv a, iv n] w (Pure w (.tuple #[.int .u32 0, .slice none 0 0, iv 2])) := by
  have hown : ∀ w', Kept [] w w' → Owns w' (rlG bl bd fv rv cv cut x) := fun w' k => ho.of_kept k (fun _ _ h => by cases h)
  refine Fx.of (L0 := []) Tryz.func47 rfl (by kernel_rfl) Tryz.ntmps47 rfl (Owns.nil w) ?_
  refine go (k := ?_)
  refine XL.q (.call (v := .bool false) rfl rfl fun _ w' hs => by
    have := r13there_ok bl bd fv rv cv cut x a n w' hn (hown w' hs.kept)
    rw [decide_eq_false ht] at this; exact this) rfl ?_
  refine go (k := ?_)
  exact XE.ret3 () [] rfl rfl rfl rfl trivial rfl rfl rfl
theorem r13read_down (bl bd : Nat) (fv rv cv : Value) (cut : Int) (x : Ln) (a n : Nat) (w : World) (hdi : DInv x.ds) (hn0 : 0 < x.ds.length) (hn : x.ds.length ≤ 100000) (ht : thr x.ds.length a n = 0) (hd : x.down = true) (ho : Owns w (rlG bl bd fv rv cv cut x)) :
    Fx Tryz.prog 47 [ptr bl, iv a, iv n] w (Pure w (.tuple #[.int .u32 0, .slice none 0 0, iv 8])) := by
  have hown : ∀ w', Kept [] w w' → Owns w' (rlG bl bd fv rv cv cut x) := fun w' k => ho.of_kept k (fun _ _ h => by cases h)
  have hlen : (a : Int) + n ≤ 200000 ∧ 2 ≤ (n : Int) := by
    unfold thr at ht
    split at ht
    · cases ht
    · omega
  obtain ⟨acts, down, ds⟩ := x
  simp only at hd hdi hn hn0 ht
  subst hd
  refine Fx.of (L0 := []) Tryz.func47 rfl (by kernel_rfl) Tryz.ntmps47 rfl (Owns.nil w) ?_
  refine go (k := ?_)
  refine XL.q (.call (v := .bool true) rfl rfl fun _ w' hs => by
    have := r13there_ok bl bd fv rv cv cut ⟨acts, true, ds⟩ a n w' hn (hown w' hs.kept)
    rw [decide_eq_true ht] at this; exact this) rfl ?_
  refine go (k := ?_)
  refine XC.loop (α := Unit) (fun _ => [(0, ptr bl), (1, iv a), (2, iv n), (13, iv 0)]) (fun _ => []) (fun _ => True) (fun _ => 0) () [] trivial ⟨rfl, rfl, rfl, rfl, trivial⟩ rfl rfl ?_
  rintro ⟨⟩ _
  have h0 : (0 : Int) < (n : Int) := by omega
  refine go (k := ?_)
  refine XL.q (.call (v := .tuple #[str [], iv 8]) rfl rfl fun _ w hs => rlread_ok bl bd fv rv cv cut ⟨acts, true, ds⟩ _ hdi hn0 hn w (hown w hs.kept)) rfl ?_
  refine go (k := ?_)
  exact XE.ret3 () [] rfl rfl rfl rfl trivial rfl rfl rfl
set_option maxHeartbeats 4000000 in
theorem r13read_ok (bl bd : Nat) (fv rv cv : Value) (cut : Int) (x : Ln) (a n : Nat) (w : World) (hk : Oks x.ds) (hdi : DInv x.ds) (hn0 : 0 < x.ds.length) (hn : x.ds.length ≤ 100000) (ht : thr x.ds.length a n = 0) (hd : x.down = false) (ho : Owns w (rlG bl bd fv rv cv cut x)) :
    Fx Tryz.prog 47 [ptr bl, iv a, iv n] w (Ret w [] (fun v : Value => .tuple #[.int .u32 (rtell (rblks x.ds a n)).gen, v, iv 0]) (fun v => [.sl v 9 1 (gstrs (rtell (rblks x.ds a n)).groups)]) (fun _ => True)) := by
  have hown : ∀ w', Kept [] w w' → Owns w' (rlG bl bd fv rv cv cut x) := fun w' k => ho.of_kept k (fun _ _ h => by cases h)
  have hlen : (a : Int) + n ≤ x.ds.length ∧ 2 ≤ (n : Int) ∧ (n : Int) ≤ 65536 := by
    unfold thr at ht
    split at ht
    · cases ht
    · omega
  obtain ⟨acts, down, ds⟩ := x
  simp only at hd hk hdi hn hn0 ht hlen ⊢
  subst hd
  refine Fx.of (L0 := []) Tryz.func47 rfl (by kernel_rfl) Tryz.ntmps47 rfl (Owns.nil w) ?_
  refine go (k := ?_)
  refine XL.q (.call (v := .bool true) rfl rfl fun _ w' hs => by
    have := r13there_ok bl bd fv rv cv cut ⟨acts, false, ds⟩ a n w' hn (hown w' hs.kept)
    rw [decide_eq_true ht] at this; exact this) rfl ?_
  refine go (k := ?_)
  refine XC.addNil 9 1 ?_
  refine XC.loop (α := Nat × Value × Rs) (fun y => [(0, ptr bl), (1, iv a), (2, iv n), (9, .int .u32 y.2.2.gen), (10, y.2.1), (11, str y.2.2.group), (12, .bool y.2.2.going), (13, iv y.1)]) (fun y => [.sl y.2.1 9 1 (gstrs y.2.2.groups)])
    (fun y => y.1 ≤ n ∧ y.2.2 = rtell ((rblks ds a n).take y.1)) (fun y => n - y.1) (0, .slice none 0 0, rs0) [0] ⟨Nat.zero_le _, rfl⟩ ⟨rfl, rfl, rfl, rfl, rfl, rfl, rfl, rfl, trivial⟩ rfl rfl ?_
  rintro ⟨k, v, st⟩ ⟨hkn, hst⟩
  simp only at hkn hst ⊢
  by_cases hlt : k < n
  · have hat := rblks_at ds a hlt
    have hbd := rtell_bd ((rblks ds a n).take k) (fun p hp => by have := rblks_bd hk a n p (List.mem_of_mem_take hp); omega)
    rw [← hst, List.length_take, rblks_len, Nat.min_eq_left (Nat.le_of_lt hlt)] at hbd
    have hs1 : rtell ((rblks ds a n).take (k + 1)) = rstep st (k, (drd ds (a + k : Nat)).1) := by
      rw [take_snoc hat, rtell_snoc, ← hst]
    have hrd1 : Ln.read ⟨acts, false, ds⟩ ((a : Int) + (k : Int)) = ((drd ds (a + k : Nat)).1, 0) := by
      unfold Ln.read
      rw [if_neg (by simp)]
      have h1 : (drd ds ((a : Int) + (k : Int))).2 = 0 := by
        unfold drd
        rw [if_neg (by omega), if_neg (by omega)]
      have h2 : ((a : Int) + (k : Int)) = ((a + k : Nat) : Int) := by omega
      rw [← h1, h2]
    have hsl := drd_64 hk (k := a + k) (by omega)
    obtain ⟨s, hs⟩ : ∃ s, s = (drd ds (a + k : Nat)).1 := ⟨_, rfl⟩
    rw [← hs] at hs1 hrd1 hsl
    clear hs
    obtain ⟨gen, groups, group, going⟩ := st
    simp only at hbd hst ⊢
    replace hs1 := Hold.mk hs1
    refine go (k := ?_)
    refine XL.q (.call (v := .tuple #[str s, iv 0]) rfl rfl fun _ w hs => by
      have := rlread_ok bl bd fv rv cv cut ⟨acts, false, ds⟩ ((a : Int) + (k : Int)) hdi hn0 hn w (hown w hs.kept)
      rw [hrd1] at this; exact this) rfl ?_
    by_cases h0 : k = 0
    · subst h0
      have e1 : rstep ⟨gen, groups, group, going⟩ (0, s) = ⟨hdr s, groups, group, going⟩ := by unfold rstep; rw [if_pos rfl]
      have hs2 := hs1.out
      rw [e1, hdr_ref hsl] at hs2
      obtain ⟨q, hq⟩ : ∃ q, q = gnum (s.take 4) := ⟨_, rfl⟩
      have hq4 : q < 4294967296 := by rw [hq]; exact gnum_le4 _ (by rw [List.length_take]; omega)
      rw [← hq] at hs2
      replace hs2 := Hold.mk hs2
      clear hs1 hat
      refine go (k := ?_)
      refine XL.box (zs := [str s, iv 0, iv 0]) rfl rfl rfl fun bz => ?_
      refine go (k := ?_)
      refine XL.call [0] [1] rfl rfl rfl rfl rfl (fun _ w _ ho => r01number_ok bz s w hsl ho) fun _ _ => ?_
      rw [← hq]
      refine XL.pk (M := [.sl v 9 1 (gstrs groups)]) [1] (by decide) rfl ?_
      clear hq
      refine go (k := ?_)
      refine XL.q (.call rfl rfl fun _ w _ => r13header_ok q w hq4) rfl ?_
      by_cases he : s = hblk q
      · have hs3 := hs2.out
        rw [if_pos he] at hs3
        replace hs3 := Hold.mk hs3
        clear hs2
        have hne : ¬ ¬ s = hblk q := fun h => h he
        refine go (k := ?_)
        exact XE.mid (0 + 1, v, ⟨q, groups, group, going⟩) [0] ⟨⟨by simp only; omega, hs3.out.symm⟩, by simp only; omega⟩ ⟨rfl, rfl, rfl, rfl, rfl, rfl, rfl, rfl, trivial⟩ rfl rfl
      · have hs3 := hs2.out
        rw [if_neg he] at hs3
        replace hs3 := Hold.mk hs3
        clear hs2
        refine go (k := ?_)
        exact XE.mid (0 + 1, v, ⟨0, groups, group, going⟩) [0] ⟨⟨by simp only; omega, hs3.out.symm⟩, by simp only; omega⟩ ⟨rfl, rfl, rfl, rfl, rfl, rfl, rfl, rfl, trivial⟩ rfl rfl
    · have h0' : ¬ (k : Int) = 0 := by omega
      have e1 : rstep ⟨gen, groups, group, going⟩ (k, s) = if (going && (pce k s).2.2) = false then ⟨gen, groups, group, false⟩ else if (pce k s).2.1 = true then ⟨gen, groups ++ [group ++ (pce k s).1], [], going⟩ else ⟨gen, groups, group ++ (pce k s).1, going⟩ := by
        unfold rstep; rw [if_neg (show ¬ (k, s).1 = 0 from h0)]
      have hs2 := hs1.out
      rw [e1] at hs2
      clear hs1 e1
      obtain ⟨c2, hc2⟩ : ∃ c, s[2]? = some c := ⟨_, List.getElem?_eq_getElem (by omega)⟩
      obtain ⟨c3, hc3⟩ : ∃ c, s[3]? = some c := ⟨_, List.getElem?_eq_getElem (by omega)⟩
      have l2 := c2.toNat_lt
      have l3 := c3.toNat_lt
      have hbad : ∀ _ : 1 < c2.toNat ∨ 58 < c3.toNat ∨ (c2.toNat = 0 ∧ c3.toNat < 58), rtell ((rblks ds a n).take (k + 1)) = ⟨gen, groups, group, false⟩ := fun h => by
        rw [hs2, pce_bad hsl hc2 hc3 h, Bool.and_false, if_pos rfl]
      obtain ⟨t, ht⟩ : ∃ t, t = (s.take (4 + c3.toNat)).drop 4 := ⟨_, rfl⟩
      have hgood : ¬ (1 < c2.toNat ∨ 58 < c3.toNat ∨ (c2.toNat = 0 ∧ c3.toNat < 58)) → (¬ s = rblk k c2.toNat t → rtell ((rblks ds a n).take (k + 1)) = ⟨gen, groups, group, false⟩) ∧ (s = rblk k c2.toNat t → rtell ((rblks ds a n).take (k + 1)) = if going = false then ⟨gen, groups, group, false⟩ else if c2.toNat = 1 then ⟨gen, groups ++ [group ++ t], [], going⟩ else ⟨gen, groups, group ++ t, going⟩) := fun h => by
        obtain ⟨p1, p2⟩ := pce_good (i := k) hsl hc2 hc3 (by omega) h
        rw [← ht] at p1 p2
        refine ⟨fun e => ?_, fun e => ?_⟩
        · rw [hs2, p2 e, Bool.and_false, if_pos rfl]
        · rw [hs2, p1 e, Bool.and_true]; simp only [decide_eq_true_eq]
      replace hbad := Hold.mk hbad
      replace hgood := Hold.mk hgood
      clear hs2 hat
      have htl : t.length = c3.toNat ∨ 60 < c3.toNat := by rw [ht, List.length_drop, List.length_take]; omega
      refine go (k := ?_)
      by_cases b1 : 1 < c2.toNat
      · skip
        have hq := Hold.mk (hbad.out (.inl b1))
        refine go (k := ?_)
        exact XE.mid (k + 1, v, ⟨gen, groups, group, false⟩) [0] ⟨⟨by simp only; omega, hq.out.symm⟩, by simp only; omega⟩ ⟨rfl, rfl, rfl, rfl, rfl, rfl, rfl, rfl, trivial⟩ rfl rfl
      by_cases b2 : 58 < c3.toNat
      · skip
        have hq := Hold.mk (hbad.out (.inr (.inl b2)))
        refine go (k := ?_)
        exact XE.mid (k + 1, v, ⟨gen, groups, group, false⟩) [0] ⟨⟨by simp only; omega, hq.out.symm⟩, by simp only; omega⟩ ⟨rfl, rfl, rfl, rfl, rfl, rfl, rfl, rfl, trivial⟩ rfl rfl
      by_cases b3 : c2.toNat = 0
      · by_cases b4 : c3.toNat < 58
        · skip
          have hq := Hold.mk (hbad.out (.inr (.inr ⟨b3, b4⟩)))
          refine go (k := ?_)
          exact XE.mid (k + 1, v, ⟨gen, groups, group, false⟩) [0] ⟨⟨by simp only; omega, hq.out.symm⟩, by simp only; omega⟩ ⟨rfl, rfl, rfl, rfl, rfl, rfl, rfl, rfl, trivial⟩ rfl rfl
        have hnb : ¬ (1 < c2.toNat ∨ 58 < c3.toNat ∨ (c2.toNat = 0 ∧ c3.toNat < 58)) := by omega
        obtain ⟨g1, g2⟩ := hgood.out hnb
        replace g1 := Hold.mk g1
        replace g2 := Hold.mk g2
        refine go (k := ?_)
        rw [show (4 : Int) + (c3.toNat : Int) = ((4 + c3.toNat : Nat) : Int) by omega]
        refine XL.q (.cutS (l := 4) (h := 4 + c3.toNat) rfl rfl rfl rfl (by omega) (by omega)) rfl ?_
        rw [← ht]
        refine go (k := ?_)
        refine XL.q (.call rfl rfl fun _ w _ => r13block_ok k c2.toNat t w (by omega) (by omega) (by omega)) rfl ?_
        by_cases he : s = rblk k c2.toNat t
        · have hne : ¬ ¬ s = rblk k c2.toNat t := fun h => h he
          cases going with
          | false =>
            have hq := g2.out he
            rw [if_pos rfl] at hq
            replace hq := Hold.mk hq
            refine go (k := ?_)
            exact XE.mid (k + 1, v, ⟨gen, groups, group, false⟩) [0] ⟨⟨by simp only; omega, hq.out.symm⟩, by simp only; omega⟩ ⟨rfl, rfl, rfl, rfl, rfl, rfl, rfl, rfl, trivial⟩ rfl rfl
          | true =>
            have hq := g2.out he
            rw [if_neg (by simp), if_neg (by omega)] at hq
            replace hq := Hold.mk hq
            refine go (k := ?_)
            rw [show (4 : Int) + (c3.toNat : Int) = ((4 + c3.toNat : Nat) : Int) by omega]
            refine XL.q (.cutS (l := 4) (h := 4 + c3.toNat) rfl rfl rfl rfl (by omega) (by omega)) rfl ?_
            rw [← ht]
            refine go (k := ?_)
            exact XE.mid (k + 1, v, ⟨gen, groups, group ++ t, true⟩) [0] ⟨⟨by simp only; omega, hq.out.symm⟩, by simp only; omega⟩ ⟨rfl, rfl, rfl, rfl, rfl, rfl, rfl, rfl, trivial⟩ rfl rfl
        · have hq := Hold.mk (g1.out he)
          refine go (k := ?_)
          exact XE.mid (k + 1, v, ⟨gen, groups, group, false⟩) [0] ⟨⟨by simp only; omega, hq.out.symm⟩, by simp only; omega⟩ ⟨rfl, rfl, rfl, rfl, rfl, rfl, rfl, rfl, trivial⟩ rfl rfl
      · skip
        have hnb : ¬ (1 < c2.toNat ∨ 58 < c3.toNat ∨ (c2.toNat = 0 ∧ c3.toNat < 58)) := by omega
        obtain ⟨g1, g2⟩ := hgood.out hnb
        replace g1 := Hold.mk g1
        replace g2 := Hold.mk g2
        refine go (k := ?_)
        rw [show (4 : Int) + (c3.toNat : Int) = ((4 + c3.toNat : Nat) : Int) by omega]
        refine XL.q (.cutS (l := 4) (h := 4 + c3.toNat) rfl rfl rfl rfl (by omega) (by omega)) rfl ?_
        rw [← ht]
        refine go (k := ?_)
        refine XL.q (.call rfl rfl fun _ w _ => r13block_ok k c2.toNat t w (by omega) (by omega) (by omega)) rfl ?_
        by_cases he : s = rblk k c2.toNat t
        · have hne : ¬ ¬ s = rblk k c2.toNat t := fun h => h he
          cases going with
          | false =>
            have hq := g2.out he
            rw [if_pos rfl] at hq
            replace hq := Hold.mk hq
            refine go (k := ?_)
            exact XE.mid (k + 1, v, ⟨gen, groups, group, false⟩) [0] ⟨⟨by simp only; omega, hq.out.symm⟩, by simp only; omega⟩ ⟨rfl, rfl, rfl, rfl, rfl, rfl, rfl, rfl, trivial⟩ rfl rfl
          | true =>
            have hq := g2.out he
            rw [if_neg (by simp), if_pos (by omega)] at hq
            replace hq := Hold.mk hq
            refine go (k := ?_)
            rw [show (4 : Int) + (c3.toNat : Int) = ((4 + c3.toNat : Nat) : Int) by omega]
            refine XL.q (.cutS (l := 4) (h := 4 + c3.toNat) rfl rfl rfl rfl (by omega) (by omega)) rfl ?_
            rw [← ht]
            refine go (k := ?_)
            refine XL.make (.bslice rfl rfl rfl rfl rfl rfl) rfl fun _ _ hb => ?_
            obtain ⟨bs, rfl, rfl⟩ := hb
            refine go (k := ?_)
            refine XL.app (m := 1) (news := [str (group ++ t)]) (L' := fun v'' => _ :: .sl v'' 9 1 (gstrs groups ++ [str (group ++ t)]) :: _) rfl rfl rfl rfl rfl rfl (by decide) (.tail _ (.head _)) (.blk (.head _) rfl (Nat.le_refl _) rfl) rfl (by simp only [gstrs_len, List.length_singleton]; omega) (by simp only [gstrs_len, List.length_singleton]; omega) (fun _ => .there .here) rfl fun v2 => ?_
            refine go (k := ?_)
            exact XE.mid (k + 1, v2, ⟨gen, groups ++ [group ++ t], [], true⟩) [1] ⟨⟨by simp only; omega, hq.out.symm⟩, by simp only; omega⟩ ⟨rfl, rfl, rfl, rfl, rfl, rfl, rfl, rfl, trivial⟩ rfl (by simp [X.pick, gstrs])
        · have hq := Hold.mk (g1.out he)
          refine go (k := ?_)
          exact XE.mid (k + 1, v, ⟨gen, groups, group, false⟩) [0] ⟨⟨by simp only; omega, hq.out.symm⟩, by simp only; omega⟩ ⟨rfl, rfl, rfl, rfl, rfl, rfl, rfl, rfl, trivial⟩ rfl rfl
  · obtain rfl : k = n := by omega
    rw [List.take_of_length_le (by rw [rblks_len]; exact Nat.le_refl _)] at hst
    subst hst
    refine go (k := ?_)
    exact XE.ret3 v [0] rfl rfl rfl rfl trivial rfl rfl rfl
end Go.X
