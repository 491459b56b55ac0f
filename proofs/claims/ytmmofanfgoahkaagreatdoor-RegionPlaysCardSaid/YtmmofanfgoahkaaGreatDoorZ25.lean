/- RegionPlays: helpers of the law over both regions. -/
import Derived.Test.YtmmofanfgoahkaaGreatDoorZ24
namespace Go.X
open Go Go.Proofs Go.RowKit
structure LD (m k : Nat) (x : Ln) : Prop where
  li : LIn m k x
  inv : DInv x.ds
theorem act_inv {cut : Int} {ch : List Int} {x : Ln} {e : Int} {ds' : List Slot} (h : DInv x.ds) (h' : DInv ds') : DInv (x.act cut ch e ds').2.ds := by
  unfold Ln.act
  split
  · exact h
  · split
    · refine settled_inv _ ?_
      split
      · exact h'
      · exact h
    · exact h'
section
variable {m k : Nat} {x : Ln} {cut : Int} {ch : List Int}
theorem LD.mono {q : Nat} (h : LD m k x) (hq : k ≤ q) : LD m q x := ⟨⟨h.li.ok, h.li.len, Nat.le_trans h.li.acts hq⟩, h.inv⟩
theorem LD.write (h : LD m k x) (i : Int) (s : List UInt8) : LD m (k + 1) (x.write cut ch i s).2 := ⟨h.li.write cut ch i s, act_inv h.inv (dwr_inv h.inv i s)⟩
theorem LD.flush (h : LD m k x) : LD m (k + 1) (x.flush cut ch).2 := ⟨h.li.flush cut ch, act_inv h.inv (settled_inv _ h.inv)⟩
theorem LD.wrs : ∀ (l : List (Int × List UInt8)) {k : Nat} {x : Ln}, LD m k x → LD m (k + l.length) (X.wrs cut ch l x).2
  | [], k, x, h => h
  | p :: l, k, x, h => by
    have h1 := h.write (cut := cut) (ch := ch) p.1 p.2
    simp only [X.wrs]
    split
    · exact h1.mono (by simp only [List.length_cons]; omega)
    · have := LD.wrs l h1
      rw [List.length_cons, show k + (l.length + 1) = k + 1 + l.length by omega]
      exact this
theorem LD.fmt (h : LD m k x) (a : Int) (n : Nat) : LD m (k + n + 1) (X.fmt cut ch a n x).2 := by
  have h1 := LD.wrs (cut := cut) (ch := ch) (fmtl a n) h
  rw [fmtl_len] at h1
  unfold X.fmt
  split
  · exact h1.mono (by omega)
  · exact h1.flush
theorem LD.append (h : LD m k x) (g : Rg) (s : List UInt8) : LD m (k + nd s.length) (g.append cut ch s x).2.2 := by
  have h1 := LD.wrs (cut := cut) (ch := ch) (apl g s) h
  rw [apl_len] at h1
  unfold Rg.append
  split
  · exact h.mono (by omega)
  · split
    · exact h.mono (by omega)
    · split
      · exact h1
      · exact h1
theorem LD.rflush (h : LD m k x) (g : Rg) : LD m (k + 1) (g.flush cut ch x).2.2 := by
  unfold Rg.flush
  split
  · exact h.mono (by omega)
  · exact h.flush
theorem LD.sealG (h : LD m k x) (g : Rg) (v : Nat) : LD m (k + 2) (g.sealG cut ch v x).2.2 := by
  have h1 := h.write (cut := cut) (ch := ch) g.at_ (hblk v)
  unfold Rg.sealG
  split
  · exact h.mono (by omega)
  · split
    · exact h.mono (by omega)
    · split
      · exact h1.mono (by omega)
      · exact h1.rflush _
end
structure RgW (g : Rg) : Prop where
  n : g.n ≤ 256
  used : g.used < g.n
  at_ : g.at_ ≤ 256
theorem RgW.did {g : Rg} (h : RgW g) (e : Int) : RgW (g.did e) := ⟨h.n, h.used, h.at_⟩
theorem RgW.append {g : Rg} (h : RgW g) (cut : Int) (ch : List Int) (s : List UInt8) (x : Ln) : RgW (g.append cut ch s x).2.1 := by
  unfold Rg.append
  split
  · exact h
  · split
    · exact h
    · split
      · exact h.did _
      · exact ⟨h.n, by simp only; omega, h.at_⟩
theorem RgW.flush {g : Rg} (h : RgW g) (cut : Int) (ch : List Int) (x : Ln) : RgW (g.flush cut ch x).2.1 := by
  unfold Rg.flush
  split
  · exact h
  · exact h.did _
theorem RgW.sealG {g : Rg} (h : RgW g) (cut : Int) (ch : List Int) (v : Nat) (x : Ln) : RgW (g.sealG cut ch v x).2.1 := by
  unfold Rg.sealG
  split
  · exact h
  · split
    · exact h
    · split
      · exact h.did _
      · exact (h.did _).flush _ _ _
theorem r13same_ok (u v : Value) (gs : List (List UInt8)) (w : World) (hu : RowAt w u 1 gs.length (gstrs gs)) (hv : RowAt w v 1 gs.length (gstrs gs)) (hl : gs.length ≤ 1000000) : Fx Tryz.prog 48 [u, v] w (Pure w (.bool true)) := by
  have hr1 : ∀ L : Heap, Rd w (ids []) L u 1 gs.length (gstrs gs) := fun L => .old hu (fun _ _ _ => by simp [X.ids])
  have hr2 : ∀ L : Heap, Rd w (ids []) L v 1 gs.length (gstrs gs) := fun L => .old hv (fun _ _ _ => by simp [X.ids])
  refine Fx.of (L0 := []) Tryz.func48 rfl (by kernel_rfl) Tryz.ntmps48 rfl (Owns.nil w) ?_
  refine XC.rdv (hr1 _) fun a1 m1 h1 _ _ hao1 => ?_
  subst h1
  refine XC.rdv (hr2 _) fun a2 m2 h2 _ _ hao2 => ?_
  subst h2
  refine go (k := ?_)
  refine XC.loop (α := Nat) (fun i => [(0, .slice a1 gs.length m1), (1, .slice a2 gs.length m2), (5, iv i)]) (fun _ => []) (fun i => i ≤ gs.length) (fun i => gs.length - i) 0 [] (Nat.zero_le _) ⟨rfl, rfl, rfl, trivial⟩ rfl rfl ?_
  intro (i : Nat) (hi : i ≤ gs.length)
  by_cases hlt : i < gs.length
  · obtain ⟨s, hs⟩ : ∃ s, gs[i]? = some s := ⟨_, List.getElem?_eq_getElem hlt⟩
    obtain ⟨b1, o1, rfl⟩ : ∃ b off, a1 = some ⟨b, off, none⟩ := hao1.resolve_left (by omega)
    obtain ⟨b2, o2, rfl⟩ : ∃ b off, a2 = some ⟨b, off, none⟩ := hao2.resolve_left (by omega)
    have hv1 : (gstrs gs)[i * 1]? = some (str s) := by simp [gstrs, hs]
    refine go (k := ?_)
    refine XD.q (.ldRd (j := i * 1) rfl rfl rfl (hr1 _) (by omega) hv1) rfl ?_
    refine go (k := ?_)
    refine XD.q (.ldRd (j := i * 1) rfl rfl rfl (hr2 _) (by omega) hv1) rfl ?_
    refine go (k := ?_)
    exact XE.mid (i + 1) [] ⟨by omega, by omega⟩ ⟨rfl, rfl, rfl, trivial⟩ rfl rfl
  · obtain rfl : i = gs.length := by omega
    refine go (k := ?_)
    exact XE.ret1 () [] rfl rfl trivial rfl rfl rfl
abbrev twoG (bl b : Nat) (lv vc : Value) (cut : Int) (ch : List Int) (br bd : Nat) (fv rv cv : Value) (x : Ln) : Heap := lnX bl b lv vc cut ch x ++ rlG br bd fv rv cv cut x
theorem reads_ok (bl b : Nat) (lv vc : Value) (cut : Int) (ch : List Int) (br bd : Nat) (fv rv cv : Value) (x : Ln) (a n : Int) (k : Nat) (w : World) (h : LD 256 k x) (ho : Owns w (twoG bl b lv vc cut ch br bd fv rv cv x)) :
    Fx Tryz.prog 14 [ptr bl, ptr br, iv a, iv n] w (Pure w (.bool true)) := by
  have hown : ∀ w', Kept [] w w' → Owns w' (twoG bl b lv vc cut ch br bd fv rv cv x) := fun w' k => ho.of_kept k (fun _ _ h => by cases h)
  have o1 : ∀ w', Kept [] w w' → Owns w' (lnX bl b lv vc cut ch x) := fun w' k => (hown w' k).left
  have o2 : ∀ w', Kept [] w w' → Owns w' (rlG br bd fv rv cv cut x) := fun w' k => (hown w' k).right
  have hk := h.li.ok
  have hl := h.li.len
  have hi := h.inv
  refine Fx.of (L0 := []) Tryz.func14 rfl (by kernel_rfl) Tryz.ntmps14 rfl (Owns.nil w) ?_
  by_cases ht : thr x.ds.length a n = 0
  · have hb : 0 ≤ a ∧ 2 ≤ n := by
      unfold thr at ht; split at ht
      · cases ht
      · omega
    obtain ⟨an, rfl⟩ : ∃ q : Nat, a = q := ⟨a.toNat, by omega⟩
    obtain ⟨nn, rfl⟩ : ∃ q : Nat, n = q := ⟨n.toNat, by omega⟩
    cases hd : x.down with
    | true =>
      refine go (k := ?_)
      refine XL.q (.call rfl rfl fun _ w hs => gread_down bl b lv vc cut ch x an nn w hk (by omega) (by omega) ht hd (o1 w hs.kept)) rfl ?_
      refine go (k := ?_)
      refine XL.q (.call rfl rfl fun _ w hs => r13read_down br bd fv rv cv cut x an nn w hi (by omega) (by omega) ht hd (o2 w hs.kept)) rfl ?_
      refine go (k := ?_)
      refine XL.q (.call rfl rfl fun _ w hs => r13same_ok _ _ [] w (gsNil w) (gsNil w) (by decide)) rfl ?_
      refine go (k := ?_)
      exact XE.ret1 () [] rfl rfl trivial rfl rfl rfl
    | false =>
      have hgl := (rtell_bd (rblks x.ds an nn) (fun p hp => by have := rblks_bd hk an nn p hp; omega)).2
      rw [rblks_len] at hgl
      have hnn : (nn : Int) ≤ 65536 := by
        unfold thr at ht; split at ht
        · cases ht
        · omega
      have r1 : ∀ w', Kept [] w w' → Fx Tryz.prog 46 [ptr bl, iv an, iv nn] w' (Ret w' [] (fun v : Value => .tuple #[.int .u32 (rtell (rblks x.ds an nn)).gen, v, iv 0]) (fun v => [.sl v 9 1 (gstrs (rtell (rblks x.ds an nn)).groups)]) (fun _ => True)) := fun w' k => grread_ok bl b lv vc cut ch x an nn w' hk (by omega) (by omega) ht hd (o1 w' k)
      have r2 : ∀ w', Kept [] w w' → Fx Tryz.prog 47 [ptr br, iv an, iv nn] w' (Ret w' [] (fun v : Value => .tuple #[.int .u32 (rtell (rblks x.ds an nn)).gen, v, iv 0]) (fun v => [.sl v 9 1 (gstrs (rtell (rblks x.ds an nn)).groups)]) (fun _ => True)) := fun w' k => r13read_ok br bd fv rv cv cut x an nn w' hk hi (by omega) (by omega) ht hd (o2 w' k)
      obtain ⟨T, hT⟩ : ∃ T, T = rtell (rblks x.ds an nn) := ⟨_, rfl⟩
      rw [← hT] at r1 r2 hgl
      clear hT ht
      obtain ⟨gen, gs, gr, goi⟩ := T
      simp only at r1 r2 hgl
      refine go (k := ?_)
      refine XL.call [] [] rfl rfl rfl rfl rfl (fun _ w hs _ => r1 w hs.kept) fun v1 _ => ?_
      refine go (k := ?_)
      refine XL.call [] [0] rfl rfl rfl rfl rfl (fun _ w hs _ => r2 w hs.kept) fun v2 _ => ?_
      refine XL.nm (M := [.sl v2 9 1 (gstrs gs), .sl v1 9 1 (gstrs gs)]) ?_ rfl
      refine XL.slv (.head _) fun a2 q2 m2 hv2 hq2 _ => ?_
      subst hv2
      obtain rfl : q2 = gs.length := by simpa using hq2
      refine XL.slv (.tail _ (.head _)) fun a3 q3 m3 hv3 hq3 _ => ?_
      subst hv3
      obtain rfl : q3 = gs.length := by simpa using hq3
      refine go (k := ?_)
      refine XL.q (.call rfl rfl fun _ w hs => r13same_ok _ _ gs w ((hs.own.ok _ (.tail _ (.head _)) : SlOk w _ _ 1 _).rowAt (by decide) (by simp)) ((hs.own.ok _ (.head _) : SlOk w _ _ 1 _).rowAt (by decide) (by simp)) (by omega)) rfl ?_
      refine go (k := ?_)
      exact XE.ret1 () [] rfl rfl trivial rfl rfl rfl
  · have e2 : thr x.ds.length a n = 2 := by
      unfold thr at ht ⊢; split at ht
      · rename_i h; rw [if_pos h]
      · exact absurd rfl ht
    refine go (k := ?_)
    refine XL.q (.call (v := .tuple #[.int .u32 0, .slice none 0 0, iv 2]) rfl rfl fun _ w hs => by
      have := gread_bad bl b lv vc cut ch x a n w hk (by omega) ht (o1 w hs.kept)
      rw [e2] at this; exact this) rfl ?_
    refine go (k := ?_)
    refine XL.q (.call rfl rfl fun _ w hs => r13read_bad br bd fv rv cv cut x a n w (by omega) ht (o2 w hs.kept)) rfl ?_
    refine go (k := ?_)
    refine XL.q (.call rfl rfl fun _ w hs => r13same_ok _ _ [] w (gsNil w) (gsNil w) (by decide)) rfl ?_
    refine go (k := ?_)
    exact XE.ret1 () [] rfl rfl trivial rfl rfl rfl
end Go.X
/- RegionPlays: one, and the walk. Printed by gen-regplays.py. -/
namespace Go.X
open Go Go.Proofs Go.RowKit
abbrev bothR (pr bl b : Nat) (lv vc : Value) (cut : Int) (ch : List Int) (bq br bd : Nat) (fv rv cv : Value) (g : Rg) (x : Ln) : Heap := rgX pr bl b lv vc cut ch g x ++ r13X bq br bd fv rv cv cut g x
def opk (cut : Int) (ch : List Int) (a : RAct) (g : Rg) (x : Ln) : Int × Rg × Ln := if a.what % 6 = 0 then g.append cut ch a.s x else if a.what % 6 = 1 then g.flush cut ch x else g.sealG cut ch a.gen.toNat x
theorem LD.opk {m k : Nat} {x : Ln} {cut : Int} {ch : List Int} (h : LD m k x) (a : RAct) (ha : a.s.length ≤ 5000) (g : Rg) : LD m (k + 300) (X.opk cut ch a g x).2.2 := by
  unfold X.opk
  split
  · refine (h.append g a.s).mono ?_
    have : nd a.s.length ≤ 90 := by unfold nd; split <;> omega
    omega
  · split
    · exact (h.rflush g).mono (by omega)
    · exact (h.sealG g _).mono (by omega)
theorem RgW.opk {g : Rg} (h : RgW g) (cut : Int) (ch : List Int) (a : RAct) (x : Ln) : RgW (X.opk cut ch a g x).2.1 := by
  unfold X.opk
  split
  · exact h.append _ _ _ _
  · split
    · exact h.flush _ _ _
    · exact h.sealG _ _ _ _
theorem ids_rgX {pr bl b : Nat} {lv vc : Value} {cut : Int} {ch : List Int} {g : Rg} {x : Ln} {M : Heap} : ∀ q ∈ ids M, q ∈ ids (rgX pr bl b lv vc cut ch g x ++ M) := fun q hq => by
  rw [ids_append]; exact List.mem_append_right _ hq
set_option maxHeartbeats 2000000 in
theorem one13_ok (pr bl b : Nat) (lv vc : Value) (cut : Int) (ch : List Int) (bq br bd : Nat) (fv rv cv : Value) (g : Rg) (x : Ln) (k : Nat) (a : RAct) (w : World) (ha6 : a.what % 6 = 0 ∨ a.what % 6 = 1 ∨ a.what % 6 = 2) (ha0 : 0 ≤ a.what ∧ a.what ≤ 255) (hga : 0 ≤ a.gen ∧ a.gen ≤ 4294967295) (hsa : a.s.length ≤ 5000)
    (h : LD 256 k x) (hk : k ≤ 600000) (hg : RgW g) (hl : ch.length ≤ 1000000) (hw : ∀ a ∈ ch, -9223372036854775808 ≤ a ∧ a ≤ 9223372036854775807) (hv : ∀ w', Kept (ids (bothR pr bl b lv vc cut ch bq br bd fv rv cv g x)) w w' → RowAt w' cv 1 ch.length (ivs ch)) (ho : Owns w (bothR pr bl b lv vc cut ch bq br bd fv rv cv g x)) :
    Fx Tryz.prog 17 [ptr pr, ptr bq, .agg (racell a).toArray] w (Ret w (bothR pr bl b lv vc cut ch bq br bd fv rv cv g x) (fun _ : Value => .bool true) (fun rv' => bothR pr bl b lv vc cut ch bq br bd fv rv' cv (opk cut ch a g x).2.1 (opk cut ch a g x).2.2) (fun _ => True)) := by
  obtain ⟨what, s, gen, at_, n⟩ := a
  simp only at ha6 ha0 hga hsa
  obtain ⟨gn, rfl⟩ : ∃ gn : Nat, gen = gn := ⟨gen.toNat, by omega⟩
  have hli : ∀ {q : Nat}, 700000 ≤ q → LIn 256 q x := fun hq => ⟨h.li.ok, h.li.len, by have := h.li.acts; omega⟩
  have hreg : g.n ≤ 65536 ∧ g.used < g.n ∧ g.at_ ≤ 100000 := ⟨by have := hg.n; omega, hg.used, by have := hg.at_; omega⟩
  refine Fx.of Tryz.func17 rfl (by kernel_rfl) Tryz.ntmps17 rfl ho ?_
  rcases ha6 with h6 | h6 | h6
  · have e : opk cut ch ⟨what, s, gn, at_, n⟩ g x = g.append cut ch s x := by unfold opk; simp only; rw [if_pos h6]
    obtain ⟨r, hr⟩ : ∃ r, r = g.append cut ch s x := ⟨_, rfl⟩
    rw [e]
    refine go (k := ?_)
    refine XL.box (zs := [.int .u8 what, str s, .int .u32 gn, iv at_, iv n]) rfl rfl rfl fun ba => ?_
    refine go (k := ?_)
    refine XL.call [1, 2, 3, 4] [5, 6, 7, 0] rfl rfl rfl rfl rfl (fun _ w1 hs ho => rappend_ok pr bl b lv vc cut ch g x s 256 w1 (hli (by decide)) (by decide) (by decide) (by omega) hreg hl hw ho) fun _ _ => ?_
    rw [← hr]
    obtain ⟨e1, g1, x1⟩ := r
    simp only
    refine XL.nm (M := rgX pr bl b lv vc cut ch g1 x1 ++ (r13X bq br bd fv rv cv cut g x ++ [.blk ba [.int .u8 what, str s, .int .u32 gn, iv at_, iv n] 46])) ?_ rfl
    refine go (k := ?_)
    refine XL.call [4, 5, 6] [0, 1, 2, 3, 7] rfl rfl rfl rfl rfl (fun _ w1 hs ho => r13append_ok bq br bd fv rv cv cut ch g x 256 w1 s (hli (by decide)) (by decide) (by decide) (by omega) hreg hl hw (fun w' hk' => hv w' (hs.keptTo hk' (fun q hq => mem_ids.2 (by obtain ⟨y, hy, hyq⟩ := mem_ids.1 hq; exact ⟨y, List.mem_append_right _ (List.mem_append_left _ hy), hyq⟩)))) ho) fun rv2 _ => ?_
    rw [← hr]
    simp only
    refine go (k := ?_)
    exact XE.ret1 rv2 [3, 4, 5, 6, 0, 1, 2] rfl rfl trivial (by simp) rfl rfl
  · have e : opk cut ch ⟨what, s, gn, at_, n⟩ g x = g.flush cut ch x := by unfold opk; simp only; rw [if_neg (by omega), if_pos h6]
    obtain ⟨r, hr⟩ : ∃ r, r = g.flush cut ch x := ⟨_, rfl⟩
    rw [e]
    refine go (k := ?_)
    refine XL.box (zs := [.int .u8 what, str s, .int .u32 gn, iv at_, iv n]) rfl rfl rfl fun ba => ?_
    refine go (k := ?_)
    refine XL.call [1, 2, 3, 4] [5, 6, 7, 0] rfl rfl rfl rfl rfl (fun _ w1 hs ho => grflush_ok pr bl b lv vc cut ch g x 256 w1 (hli (by decide)) (by decide) hl hw ho) fun _ _ => ?_
    rw [← hr]
    obtain ⟨e1, g1, x1⟩ := r
    simp only
    refine XL.nm (M := rgX pr bl b lv vc cut ch g1 x1 ++ (r13X bq br bd fv rv cv cut g x ++ [.blk ba [.int .u8 what, str s, .int .u32 gn, iv at_, iv n] 46])) ?_ rfl
    refine go (k := ?_)
    refine XL.call [4, 5, 6] [0, 1, 2, 3, 7] rfl rfl rfl rfl rfl (fun _ w1 hs ho => r13flush_ok bq br bd fv rv cv cut ch g x 256 w1 (hli (by decide)) (by decide) hl hw (fun w' hk' => hv w' (hs.keptTo hk' (fun q hq => mem_ids.2 (by obtain ⟨y, hy, hyq⟩ := mem_ids.1 hq; exact ⟨y, List.mem_append_right _ (List.mem_append_left _ hy), hyq⟩)))) ho) fun rv2 _ => ?_
    rw [← hr]
    simp only
    refine go (k := ?_)
    exact XE.ret1 rv2 [3, 4, 5, 6, 0, 1, 2] rfl rfl trivial (by simp) rfl rfl
  · have e : opk cut ch ⟨what, s, gn, at_, n⟩ g x = g.sealG cut ch gn x := by unfold opk; simp only; rw [if_neg (by omega), if_neg (by omega)]; simp
    obtain ⟨r, hr⟩ : ∃ r, r = g.sealG cut ch gn x := ⟨_, rfl⟩
    rw [e]
    refine go (k := ?_)
    refine XL.box (zs := [.int .u8 what, str s, .int .u32 gn, iv at_, iv n]) rfl rfl rfl fun ba => ?_
    refine go (k := ?_)
    refine XL.call [1, 2, 3, 4] [5, 6, 7, 0] rfl rfl rfl rfl rfl (fun _ w1 hs ho => rseal_ok pr bl b lv vc cut ch g x gn 256 w1 (hli (by decide)) (by decide) (by decide) (by omega) hl hw ho) fun _ _ => ?_
    rw [← hr]
    obtain ⟨e1, g1, x1⟩ := r
    simp only
    refine XL.nm (M := rgX pr bl b lv vc cut ch g1 x1 ++ (r13X bq br bd fv rv cv cut g x ++ [.blk ba [.int .u8 what, str s, .int .u32 gn, iv at_, iv n] 46])) ?_ rfl
    refine go (k := ?_)
    refine XL.call [4, 5, 6] [0, 1, 2, 3, 7] rfl rfl rfl rfl rfl (fun _ w1 hs ho => r13seal_ok bq br bd fv rv cv cut ch g x 256 w1 gn (hli (by decide)) (by decide) (by decide) (by omega) hl hw (fun w' hk' => hv w' (hs.keptTo hk' (fun q hq => mem_ids.2 (by obtain ⟨y, hy, hyq⟩ := mem_ids.1 hq; exact ⟨y, List.mem_append_right _ (List.mem_append_left _ hy), hyq⟩)))) ho) fun rv2 _ => ?_
    rw [← hr]
    simp only
    refine go (k := ?_)
    exact XE.ret1 rv2 [3, 4, 5, 6, 0, 1, 2] rfl rfl trivial (by simp) rfl rfl
end Go.X
