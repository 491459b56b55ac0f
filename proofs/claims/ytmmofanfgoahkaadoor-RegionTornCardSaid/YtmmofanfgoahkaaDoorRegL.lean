/- Package region: Format's law; what the laws' helpers do (tells, awake, few). -/
import Derived.Test.YtmmofanfgoahkaaDoorRegK
namespace Go.X
open Go Go.Proofs
theorem padTo_nil : padTo [] = zbytes 64 := rfl
structure Zd (a n k : Nat) (d0 ds : List Slot) : Prop where
  oks : Oks ds
  inv : DInv ds
  len : ds.length = d0.length
  zer : ∀ i, i < k → ∃ s, ds[a + i]? = some s ∧ s.read = zbytes 64
  out : ∀ j, (j < a ∨ a + n ≤ j) → ds[j]? = d0[j]?
theorem dwr_nil {ds : List Slot} {k : Nat} (h : k < ds.length) : ∃ x, ds[k]? = some x ∧ dwr ds (k : Nat) [] = (0, ds.set k ⟨x.firm, zbytes 64, true⟩) := by
  refine ⟨_, List.getElem?_eq_getElem h, ?_⟩
  unfold dwr
  rw [if_neg (by omega), if_neg (by omega), if_neg (by simp), Int.toNat_natCast, List.getD_eq_getElem?_getD, List.getElem?_eq_getElem h]; rfl
theorem Zd.write {a n k : Nat} {d0 ds : List Slot} (h : Zd a n k d0 ds) (hk : k < n) (hl : a + n ≤ d0.length) : ∃ ds', dwr ds ((a + k : Nat) : Int) [] = (0, ds') ∧ Zd a n (k + 1) d0 ds' := by
  obtain ⟨x, hx, hw⟩ := dwr_nil (show a + k < ds.length by rw [h.len]; omega)
  have hlt : a + k < ds.length := by rw [h.len]; omega
  refine ⟨_, hw, h.oks.set ⟨(h.oks x (List.mem_of_getElem? hx)).1, zbytes_len 64⟩, h.inv.set rfl, by rw [List.length_set]; exact h.len, ?_, ?_⟩
  · intro i hi
    rcases Nat.lt_or_ge i k with hik | hik
    · obtain ⟨s, g1, g2⟩ := h.zer i hik
      exact ⟨s, by rw [List.getElem?_set_ne (by omega)]; exact g1, g2⟩
    · obtain rfl : i = k := by omega
      exact ⟨_, List.getElem?_set_self hlt, rfl⟩
  · intro j hj
    rw [List.getElem?_set_ne (by omega)]; exact h.out j hj
theorem fmt_wrs {a n : Nat} {cut : Int} {ch : List Int} {d0 : List Slot} (hl : a + n ≤ d0.length) : ∀ (m k : Nat) (x : Ln), k + m = n → x.down = false → Zd a n k d0 x.ds → (∀ j : Nat, j < m → ((x.acts + j : Nat) : Int) ≠ cut) →
    ∃ ds', wrs cut ch ((fmtl a n).drop k) x = (0, ⟨x.acts + m, false, ds'⟩) ∧ Zd a n n d0 ds'
  | 0, k, x, hk, hd, h, _ => by
    rw [List.drop_of_length_le (by rw [fmtl_len]; omega)]
    obtain ⟨acts, down, ds⟩ := x
    simp only at hd h
    subst hd
    obtain rfl : k = n := by omega
    exact ⟨ds, rfl, h⟩
  | m + 1, k, x, hk, hd, h, hc => by
    obtain ⟨hl2, he⟩ := List.getElem?_eq_some_iff.1 (fmtl_at (a : Int) (show k < n by omega))
    rw [List.drop_eq_getElem_cons hl2, he]
    obtain ⟨d1, w1, w2⟩ := h.write (by omega) hl
    have hwr : x.write cut ch ((a : Int) + (k : Int)) [] = x.act cut ch 0 d1 := by
      unfold Ln.write
      rw [show (a : Int) + (k : Int) = ((a + k : Nat) : Int) by omega, w1]
    simp only [wrs]
    rw [hwr, act_run hd (hc 0 (by omega)), if_neg (by simp)]
    obtain ⟨ds', g1, g2⟩ := fmt_wrs hl m (k + 1) ⟨x.acts + 1, false, d1⟩ (by omega) rfl w2 (fun j hj => by have := hc (j + 1) (by omega); simp only; rwa [show x.acts + 1 + j = x.acts + (j + 1) by omega])
    exact ⟨ds', by rw [g1]; simp only; rw [show x.acts + 1 + m = x.acts + (m + 1) by omega], g2⟩
theorem fmt_log {a n : Nat} {cut : Int} {ch : List Int} {x : Ln} (hd : x.down = false) (hok : Oks x.ds) (hi : DInv x.ds) (hl : a + n ≤ x.ds.length) (hn : 2 ≤ n) (hc : ∀ j : Nat, j ≤ n → ((x.acts + j : Nat) : Int) ≠ cut) :
    ∃ ds', fmt cut ch a n x = (0, ⟨x.acts + n + 1, false, ds'⟩) ∧ LG a n [] 0 0 0 0 ds' ∧ ds'.length = x.ds.length ∧ (∀ j, (j < a ∨ a + n ≤ j) → ds'[j]? = (x.ds[j]?).map fun s => if s.fresh = true then ⟨s.read, s.read, false⟩ else s) := by
  obtain ⟨d1, g1, g2⟩ := fmt_wrs (cut := cut) (ch := ch) hl n 0 x (by omega) hd ⟨hok, hi, rfl, fun i h => by omega, fun _ _ => rfl⟩ (fun j hj => hc j (by omega))
  rw [List.drop_zero] at g1
  have hz : ∀ i, i < n → (settled F64 d1)[a + i]? = some slot0 := by
    intro i hi'
    obtain ⟨s, h1, h2⟩ := g2.zer i hi'
    have hs := List.mem_of_getElem? h1
    rw [settled_at_some h1]
    split
    · rw [torn_64 (g2.oks s hs), h2]; rfl
    · rename_i hf
      have := g2.inv s hs (by simpa using hf)
      obtain ⟨f, r, b⟩ := s
      simp only at h2 this hf
      simp only [Bool.not_eq_true] at hf
      rw [← this, h2, hf]; rfl
  refine ⟨settled F64 d1, ?_, ?_, by rw [settled_len, g2.len], ?_⟩
  · unfold fmt
    rw [g1, if_neg (by simp)]
    unfold Ln.flush
    rw [act_run rfl (hc n (Nat.le_refl _))]
  · refine ⟨settled_ok g2.oks, settled_inv _ g2.inv, by rw [settled_len, g2.len]; exact hl, ?_, fun i h1 h2 => by omega, fun i h1 h2 => hz i h2, Nat.le_refl _, Nat.le_refl _, by simp; omega, fun p hp => by cases hp⟩
    exact ⟨slot0, hz 0 (by omega), hblk_zero.symm, fun h => by cases h⟩
  · intro j hj
    have ho := g2.out j hj
    rw [settled_at, ho]
    cases hx : x.ds[j]? with
    | none => rfl
    | some s =>
      simp only [Option.map_some]
      split
      · have hs : s ∈ d1 := by rw [hx] at ho; exact List.mem_of_getElem? ho
        rw [torn_64 (g2.oks s hs)]
      · rfl
theorem thr_0 {m a n : Nat} (h1 : 2 ≤ n) (h2 : n ≤ 65536) (h3 : a + n ≤ m) : thr m a n = 0 := by unfold thr; rw [if_neg (by omega)]
/-! ### tells -/
theorem tells13_ok (bl b : Nat) (lv vc : Value) (cut : Int) (ch : List Int) (x : Ln) (gen : Nat) (gs : List (List UInt8)) (u : Value) (w : World) (hk : Oks x.ds) (hl : x.ds.length = 256) (hd : x.down = false)
    (h1 : (rtell (rblks x.ds 64 64)).gen = gen) (h2 : (rtell (rblks x.ds 64 64)).groups = gs) (hu : RowAt w u 1 gs.length (gstrs gs)) (ho : Owns w (lnX bl b lv vc cut ch x)) :
    Fx Tryd.prog 12 [ptr bl, .int .u32 gen, u] w (Pure w (.bool true)) := by
  have hown : ∀ w', Kept [] w w' → Owns w' (lnX bl b lv vc cut ch x) := fun w' k => ho.of_kept k (fun _ _ h => by cases h)
  have hrl : ∀ L : Heap, Rd w (ids []) L u 1 gs.length (gstrs gs) := fun L => .old hu (fun _ _ _ => by simp [X.ids])
  have hgl : gs.length ≤ 100000 := by
    have := (rtell_bd (rblks x.ds 64 64) (fun p hp => by have := rblks_bd hk 64 64 p hp; omega)).2
    rw [h2, rblks_len] at this; omega
  have hrd : ∀ w', Kept [] w w' → Fx Tryd.prog 17 [ptr bl, iv (64 : Nat), iv (64 : Nat)] w' (Ret w' [] (fun v : Value => .tuple #[.int .u32 gen, v, iv 0]) (fun v => [.sl v 9 1 (gstrs gs)]) (fun _ => True)) := fun w' k => by
    have := rread_ok bl b lv vc cut ch x 64 64 w' hk (by omega) (by omega) (by rw [hl]; decide) hd (hown w' k)
    rw [h1, h2] at this
    exact this
  clear h1 h2 hk hl hd
  refine Fx.of (L0 := []) Tryd.func12 rfl (by kernel_rfl) Tryd.ntmps12 rfl (Owns.nil w) ?_
  refine XC.rdv (hrl _) fun ao m hv _ _ hao => ?_
  subst hv
  refine go (k := ?_)
  refine XL.call [] [] rfl rfl rfl rfl rfl (fun _ w hs _ => hrd w hs.kept) fun v _ => ?_
  refine XL.slv (.head _) fun a1 q1 m1 hv hq _ => ?_
  subst hv
  obtain rfl : q1 = gs.length := by simpa using hq
  refine go (k := ?_)
  refine XC.loop (α := Nat) (fun i => [(8, .slice a1 gs.length m1), (2, .slice ao gs.length m), (10, iv i)]) (fun _ => [.sl (.slice a1 gs.length m1) 9 1 (gstrs gs)]) (fun i => i ≤ gs.length) (fun i => gs.length - i) 0 [0] (Nat.zero_le _) ⟨rfl, rfl, rfl, trivial⟩ rfl rfl ?_
  intro (i : Nat) (hi : i ≤ gs.length)
  by_cases hlt : i < gs.length
  · obtain ⟨s, hs⟩ : ∃ s, gs[i]? = some s := ⟨_, List.getElem?_eq_getElem hlt⟩
    obtain ⟨b1, o1, rfl⟩ : ∃ b off, ao = some ⟨b, off, none⟩ := hao.resolve_left (by omega)
    have hv1 : (gstrs gs)[i * 1]? = some (str s) := by simp [gstrs, hs]
    have hr1 : ∀ L : Heap, (Ent.sl (.slice a1 gs.length m1) 9 1 (gstrs gs)) ∈ L → Rd w (ids []) L (.slice a1 gs.length m1) 1 gs.length (gstrs gs) := fun L hm => .sl hm (by decide) (by simp)
    refine XC.rdv (hr1 _ (.head _)) fun ao2 m2 hv2 _ _ hao2 => ?_
    cases hv2
    obtain ⟨b2, o2, rfl⟩ : ∃ b off, a1 = some ⟨b, off, none⟩ := hao2.resolve_left (by omega)
    refine go (k := ?_)
    refine XD.q (.ldRd (j := i * 1) rfl rfl rfl (hr1 _ (.head _)) (by omega) hv1) rfl ?_
    refine go (k := ?_)
    refine XD.q (.ldRd (j := i * 1) rfl rfl rfl (hrl _) (by omega) hv1) rfl ?_
    refine go (k := ?_)
    refine XE.mid (i + 1) [0] ⟨show i + 1 ≤ gs.length by omega, show gs.length - (i + 1) < gs.length - i by omega⟩ ⟨rfl, rfl, rfl, trivial⟩ rfl rfl
  · obtain rfl : i = gs.length := by omega
    refine go (k := ?_)
    exact XE.ret1 () [] rfl rfl trivial rfl rfl rfl
end Go.X
