/- SpaceFair: the walk. -/
import Derived.Test.YtiofmbiapngnmaaSpaceI
namespace Go.X
open Go Go.Proofs Go.RowKit
set_option maxHeartbeats 2000000 in
theorem spaceFair_ok (a0 a1 : Int) (acts : List SAct) (va : Value) (w : World) (h0 : 0 ≤ a0 ∧ a0 ≤ 255) (h1 : 0 ≤ a1 ∧ a1 ≤ 65535)
    (hv : RowAt w va 2 acts.length (scells acts)) (hl : acts.length ≤ maxLen) (hs : ∀ a ∈ acts, (0 ≤ a.what ∧ a.what ≤ 255) ∧ -9223372036854775808 ≤ a.at_ ∧ a.at_ ≤ 9223372036854775807) :
    Fx Try.prog 3 [.int .u8 a0, .int .u16 a1, va] w (Pure w (.bool true)) := by
  have hra : ∀ L : Heap, Rd w (ids []) L va 2 acts.length (scells acts) := fun L => .old hv (fun _ _ _ => by simp [X.ids])
  simp only [maxLen] at hl
  refine Fx.of (L0 := []) Try.func3 rfl (by kernel_rfl) Try.ntmps3 rfl (Owns.nil w) ?_
  refine XC.rdv (hra _) fun ao m hva _ _ haa => ?_
  subst hva
  refine go (k := ?_)
  by_cases hac : 200 < acts.length
  · refine go (k := ?_)
    refine XL.q (.call rfl rfl fun _ w _ => awake_ok w) rfl ?_
    refine go (k := ?_)
    exact XE.ret1 () [] rfl rfl trivial rfl rfl rfl
  obtain ⟨f, hf⟩ : ∃ f : Nat, a0 % 100 = f := ⟨(a0 % 100).toNat, by omega⟩
  obtain ⟨n, hn⟩ : ∃ n : Nat, (f : Int) + 1 + a1 % 300 = n := ⟨((f : Int) + 1 + a1 % 300).toNat, by omega⟩
  have hfn : f < n ∧ n ≤ 400 := by omega
  refine go (k := ?_)
  rw [hf]
  refine go (k := ?_)
  rw [hn]
  refine go (k := ?_)
  refine XL.call [] [] rfl rfl rfl rfl rfl (fun _ w _ _ => snew_ok f n w (by omega) (by omega)) fun x _ => ?_
  obtain ⟨b, lv⟩ := x
  refine go (k := ?_)
  refine XL.make (.mslice rfl rfl rfl rfl rfl (Nat.le_refl _) (by omega) (by omega)) rfl fun v H hv => ?_
  obtain ⟨b10, rfl, rfl⟩ := hv
  have hz : zerosL (Value.int IntKind.i64 0).cells.toList n = ucs (fun _ => false) n := by rw [← ucs_zero]; exact zerosL_one _ _
  rw [hz]
  refine XL.nm ?_
  refine go (k := ?_)
  refine XC.loop (α := Nat × (Nat → Bool) × Nat) (fun x => [(2, .slice ao acts.length m), (7, iv f), (8, iv n), (9, ptr b), (10, .slice (some ⟨b10, 0, none⟩) n n), (11, iv x.2.2), (12, iv x.1)])
    (fun x => [spE b lv f n x.2.1, .blk b10 (ucs x.2.1 n) 3]) (fun x => x.1 ≤ acts.length ∧ FInv f n x.2.1 x.2.2) (fun x => acts.length - x.1) (0, fun _ => false, 0) [1, 0] ⟨Nat.zero_le _, FInv.zero f n⟩ ⟨rfl, rfl, rfl, rfl, rfl, rfl, rfl, trivial⟩ rfl rfl ?_
  rintro ⟨k, u, c⟩ ⟨hk, hu⟩
  simp only at hk hu ⊢
  have hcn := hu.cnt
  by_cases hkl : k < acts.length
  · obtain ⟨a, ha⟩ : ∃ x, acts[k]? = some x := ⟨_, List.getElem?_eq_getElem hkl⟩
    obtain ⟨b1, o1, rfl⟩ : ∃ b off, ao = some ⟨b, off, none⟩ := haa.resolve_left (by omega)
    obtain ⟨c1, c2⟩ := scells_at ha
    have hsa := hs a (List.mem_of_getElem? ha)
    refine go (k := ?_)
    refine XL.q (.ldRd (j := k * 2 + 1) rfl rfl rfl (hra _) (by omega) c2) rfl ?_
    obtain ⟨bin, hbin⟩ : ∃ bin : Bool, bin = (decide ((f : Int) ≤ a.at_) && decide (a.at_ < n)) := ⟨_, rfl⟩
    by_cases w2 : a.what % 5 = 2
    · by_cases hout : a.at_ < f ∨ n ≤ a.at_
      · have hsu : suse f n u a.at_ = (2, u) := by unfold suse; rw [if_pos hout]
        by_cases h5 : a.at_ < f
        · refine go (k := ?_)
          refine XL.q (.ldRd (j := k * 2) rfl rfl rfl (hra _) (by omega) c1) rfl ?_
          refine go (k := ?_)
          refine XL.call [0] [1] rfl rfl rfl rfl rfl (fun _ w _ ho => use_ok b lv f n u _ w (by omega) (by omega) ho) fun _ _ => ?_
          rw [hsu]
          refine XL.nm ?_
          refine go (k := ?_)
          refine XL.nm ?_
          refine XL.call [0] [1] rfl rfl rfl rfl rfl (fun _ w _ ho => count_ok b lv f n (u) w (by omega) (by omega) ho) fun _ _ => ?_
          have hc2 := (hu).cnt
          refine go (k := ?_)
          exact XE.mid (k + 1, u, c) [0, 1] ⟨⟨by simp only; omega, hu⟩, by simp only; omega⟩ ⟨rfl, rfl, rfl, rfl, rfl, rfl, rfl, trivial⟩ rfl rfl
        · refine go (k := ?_)
          refine XL.q (.ldRd (j := k * 2) rfl rfl rfl (hra _) (by omega) c1) rfl ?_
          refine go (k := ?_)
          refine XL.call [0] [1] rfl rfl rfl rfl rfl (fun _ w _ ho => use_ok b lv f n u _ w (by omega) (by omega) ho) fun _ _ => ?_
          rw [hsu]
          refine XL.nm ?_
          refine go (k := ?_)
          refine XL.nm ?_
          refine XL.call [0] [1] rfl rfl rfl rfl rfl (fun _ w _ ho => count_ok b lv f n (u) w (by omega) (by omega) ho) fun _ _ => ?_
          have hc2 := (hu).cnt
          refine go (k := ?_)
          exact XE.mid (k + 1, u, c) [0, 1] ⟨⟨by simp only; omega, hu⟩, by simp only; omega⟩ ⟨rfl, rfl, rfl, rfl, rfl, rfl, rfl, trivial⟩ rfl rfl
      · obtain ⟨j, hj⟩ : ∃ j : Nat, a.at_ = j := ⟨a.at_.toNat, by omega⟩
        have hjr : f ≤ j ∧ j < n := by omega
        have hat1 := ucs_at u hjr.2
        have hat0 : (ucs u n)[j * 1]? = some (iv (if u j = true then 1 else 0)) := by rw [Nat.mul_one]; exact hat1
        have hm1 : (if (n : Int) - 1 < (j : Int) then (n : Int) - 1 else (j : Int)) = (j : Int) := if_neg (by omega)
        have hm2 : (if (0 : Int) < (j : Int) then (j : Int) else 0) = (j : Int) := by split <;> omega
        rw [hj]
        by_cases huj : u j = true
        · have hsu : suse f n u j = (6, u) := by unfold suse; rw [if_neg (by omega), Int.toNat_natCast, if_pos huj]
          rw [if_pos huj] at hat0
          refine go (k := ?_)
          refine XL.q (.ldRd (j := k * 2) rfl rfl rfl (hra _) (by omega) c1) rfl ?_
          refine go (k := ?_)
          refine XL.call [0] [1] rfl rfl rfl rfl rfl (fun _ w _ ho => use_ok b lv f n u _ w (by omega) (by omega) ho) fun _ _ => ?_
          rw [hsu]
          refine XL.nm ?_
          refine go (k := ?_)
          rw [hm1, hm2]
          refine go (k := ?_)
          refine XL.nm ?_
          refine XL.call [0] [1] rfl rfl rfl rfl rfl (fun _ w _ ho => count_ok b lv f n (u) w (by omega) (by omega) ho) fun _ _ => ?_
          have hc2 := (hu).cnt
          refine go (k := ?_)
          exact XE.mid (k + 1, u, c) [0, 1] ⟨⟨by simp only; omega, hu⟩, by simp only; omega⟩ ⟨rfl, rfl, rfl, rfl, rfl, rfl, rfl, trivial⟩ rfl rfl
        · have hsu : suse f n u j = (0, upd u j true) := by unfold suse; rw [if_neg (by omega), Int.toNat_natCast, if_neg huj]
          rw [if_neg huj] at hat0
          have hspl := ucs_spl1 u hjr.2
          have hinv := hu.on hjr.1 hjr.2 (show u j = false by simpa using huj)
          refine go (k := ?_)
          refine XL.q (.ldRd (j := k * 2) rfl rfl rfl (hra _) (by omega) c1) rfl ?_
          refine go (k := ?_)
          refine XL.call [0] [1] rfl rfl rfl rfl rfl (fun _ w _ ho => use_ok b lv f n u _ w (by omega) (by omega) ho) fun _ _ => ?_
          rw [hsu]
          refine XL.nm ?_
          refine go (k := ?_)
          rw [hm1, hm2]
          refine go (k := ?_)
          refine XL.nm ?_
          refine XL.call [0] [1] rfl rfl rfl rfl rfl (fun _ w _ ho => count_ok b lv f n (upd u j true) w (by omega) (by omega) ho) fun _ _ => ?_
          have hc2 := (hinv).cnt
          refine go (k := ?_)
          exact XE.mid (k + 1, upd u j true, c + 1) [0, 1] ⟨⟨by simp only; omega, hinv⟩, by simp only; omega⟩ ⟨rfl, rfl, rfl, rfl, rfl, rfl, rfl, trivial⟩ rfl rfl
    by_cases w3 : a.what % 5 = 3
    · by_cases hout : a.at_ < f ∨ n ≤ a.at_
      · have hsu : sgive f n u a.at_ = (2, u) := by unfold sgive; rw [if_pos hout]
        by_cases h5 : a.at_ < f
        · refine go (k := ?_)
          refine XL.q (.ldRd (j := k * 2) rfl rfl rfl (hra _) (by omega) c1) rfl ?_
          refine go (k := ?_)
          refine XL.call [0] [1] rfl rfl rfl rfl rfl (fun _ w _ ho => give_ok b lv f n u _ w (by omega) (by omega) ho) fun _ _ => ?_
          rw [hsu]
          refine XL.nm ?_
          refine go (k := ?_)
          refine XL.nm ?_
          refine XL.call [0] [1] rfl rfl rfl rfl rfl (fun _ w _ ho => count_ok b lv f n (u) w (by omega) (by omega) ho) fun _ _ => ?_
          have hc2 := (hu).cnt
          refine go (k := ?_)
          exact XE.mid (k + 1, u, c) [0, 1] ⟨⟨by simp only; omega, hu⟩, by simp only; omega⟩ ⟨rfl, rfl, rfl, rfl, rfl, rfl, rfl, trivial⟩ rfl rfl
        · refine go (k := ?_)
          refine XL.q (.ldRd (j := k * 2) rfl rfl rfl (hra _) (by omega) c1) rfl ?_
          refine go (k := ?_)
          refine XL.call [0] [1] rfl rfl rfl rfl rfl (fun _ w _ ho => give_ok b lv f n u _ w (by omega) (by omega) ho) fun _ _ => ?_
          rw [hsu]
          refine XL.nm ?_
          refine go (k := ?_)
          refine XL.nm ?_
          refine XL.call [0] [1] rfl rfl rfl rfl rfl (fun _ w _ ho => count_ok b lv f n (u) w (by omega) (by omega) ho) fun _ _ => ?_
          have hc2 := (hu).cnt
          refine go (k := ?_)
          exact XE.mid (k + 1, u, c) [0, 1] ⟨⟨by simp only; omega, hu⟩, by simp only; omega⟩ ⟨rfl, rfl, rfl, rfl, rfl, rfl, rfl, trivial⟩ rfl rfl
      · obtain ⟨j, hj⟩ : ∃ j : Nat, a.at_ = j := ⟨a.at_.toNat, by omega⟩
        have hjr : f ≤ j ∧ j < n := by omega
        have hat1 := ucs_at u hjr.2
        have hat0 : (ucs u n)[j * 1]? = some (iv (if u j = true then 1 else 0)) := by rw [Nat.mul_one]; exact hat1
        have hm1 : (if (n : Int) - 1 < (j : Int) then (n : Int) - 1 else (j : Int)) = (j : Int) := if_neg (by omega)
        have hm2 : (if (0 : Int) < (j : Int) then (j : Int) else 0) = (j : Int) := by split <;> omega
        rw [hj]
        by_cases huj : u j = true
        · have hsu : sgive f n u j = (0, upd u j false) := by unfold sgive; rw [if_neg (by omega), Int.toNat_natCast, if_pos huj]
          rw [if_pos huj] at hat0
          have hspl := ucs_spl0 u hjr.2
          obtain ⟨hc0, hinv⟩ := hu.off hjr.1 hjr.2 huj
          refine go (k := ?_)
          refine XL.q (.ldRd (j := k * 2) rfl rfl rfl (hra _) (by omega) c1) rfl ?_
          refine go (k := ?_)
          refine XL.call [0] [1] rfl rfl rfl rfl rfl (fun _ w _ ho => give_ok b lv f n u _ w (by omega) (by omega) ho) fun _ _ => ?_
          rw [hsu]
          refine XL.nm ?_
          refine go (k := ?_)
          rw [hm1, hm2]
          refine go (k := ?_)
          rw [show (c : Int) - 1 = ((c - 1 : Nat) : Int) from by omega]
          refine go (k := ?_)
          refine XL.nm ?_
          refine XL.call [0] [1] rfl rfl rfl rfl rfl (fun _ w _ ho => count_ok b lv f n (upd u j false) w (by omega) (by omega) ho) fun _ _ => ?_
          have hc2 := (hinv).cnt
          refine go (k := ?_)
          exact XE.mid (k + 1, upd u j false, c - 1) [0, 1] ⟨⟨by simp only; omega, hinv⟩, by simp only; omega⟩ ⟨rfl, rfl, rfl, rfl, rfl, rfl, rfl, trivial⟩ rfl rfl
        · have hsu : sgive f n u j = (5, u) := by unfold sgive; rw [if_neg (by omega), Int.toNat_natCast, if_neg huj]
          rw [if_neg huj] at hat0
          refine go (k := ?_)
          refine XL.q (.ldRd (j := k * 2) rfl rfl rfl (hra _) (by omega) c1) rfl ?_
          refine go (k := ?_)
          refine XL.call [0] [1] rfl rfl rfl rfl rfl (fun _ w _ ho => give_ok b lv f n u _ w (by omega) (by omega) ho) fun _ _ => ?_
          rw [hsu]
          refine XL.nm ?_
          refine go (k := ?_)
          rw [hm1, hm2]
          refine go (k := ?_)
          refine XL.nm ?_
          refine XL.call [0] [1] rfl rfl rfl rfl rfl (fun _ w _ ho => count_ok b lv f n (u) w (by omega) (by omega) ho) fun _ _ => ?_
          have hc2 := (hu).cnt
          refine go (k := ?_)
          exact XE.mid (k + 1, u, c) [0, 1] ⟨⟨by simp only; omega, hu⟩, by simp only; omega⟩ ⟨rfl, rfl, rfl, rfl, rfl, rfl, rfl, trivial⟩ rfl rfl
    · by_cases h5 : a.at_ < f
      · refine go (k := ?_)
        refine XL.q (.ldRd (j := k * 2) rfl rfl rfl (hra _) (by omega) c1) rfl ?_
        refine go (k := ?_)
        refine XL.call [0] [1] rfl rfl rfl rfl rfl (fun _ w _ ho => take_ok b lv f n u w (by omega) (by omega) ho) fun _ _ => ?_
        rcases stake_first (f := f) (n := n) (u := u) with ⟨hst, hem⟩ | ⟨j, hst, hj1, hj2, hj3, hj4⟩
        · rw [hst]
          rw [hem, List.length_nil] at hcn
          refine XL.nm ?_
          refine go (k := ?_)
          exact XE.mid (k + 1, u, c) [0, 1] ⟨⟨by simp only; omega, hu⟩, by simp only; omega⟩ ⟨rfl, rfl, rfl, rfl, rfl, rfl, rfl, trivial⟩ rfl rfl
        · rw [hst]
          have hinv := hu.on hj1 hj2 hj3
          have hspl := ucs_spl1 u hj2
          have hat0 : (ucs u n)[j * 1]? = some (iv 0) := by rw [Nat.mul_one, ucs_at u hj2, hj3]; rfl
          refine XL.nm ?_
          refine go (k := ?_)
          refine XC.loop (α := Nat) (fun i => [(2, .slice (some ⟨b1, o1, none⟩) acts.length m), (7, iv f), (8, iv n), (9, ptr b), (10, .slice (some ⟨b10, 0, none⟩) n n), (11, iv c), (12, iv k), (15, iv j), (17, iv i)])
            (fun _ => [spE b lv f n (upd u j true), .blk b10 (ucs u n) 3]) (fun i => f ≤ i ∧ i ≤ j) (fun i => j - i) f [0, 1] ⟨Nat.le_refl _, hj1⟩ ⟨rfl, rfl, rfl, rfl, rfl, rfl, rfl, rfl, rfl, trivial⟩ rfl rfl ?_
          intro i ⟨hi1, hi2⟩
          by_cases hij : i < j
          · have hati : (ucs u n)[i * 1]? = some (iv 1) := by rw [Nat.mul_one, ucs_at u (show i < n by omega), hj4 i hi1 hij]; rfl
            refine go (k := ?_)
            exact XE.mid (i + 1) [0, 1] ⟨by omega, by omega⟩ ⟨rfl, rfl, rfl, rfl, rfl, rfl, rfl, rfl, rfl, trivial⟩ rfl rfl
          · refine go (k := ?_)
            refine XL.nm ?_
            refine XL.call [0] [1] rfl rfl rfl rfl rfl (fun _ w _ ho => count_ok b lv f n (upd u j true) w (by omega) (by omega) ho) fun _ _ => ?_
            have hc2 := (hinv).cnt
            refine go (k := ?_)
            exact XE.mid (k + 1, upd u j true, c + 1) [0, 1] ⟨⟨by simp only; omega, hinv⟩, by simp only; omega⟩ ⟨rfl, rfl, rfl, rfl, rfl, rfl, rfl, trivial⟩ rfl rfl
      by_cases h6 : n ≤ a.at_
      · refine go (k := ?_)
        refine XL.q (.ldRd (j := k * 2) rfl rfl rfl (hra _) (by omega) c1) rfl ?_
        refine go (k := ?_)
        refine XL.call [0] [1] rfl rfl rfl rfl rfl (fun _ w _ ho => take_ok b lv f n u w (by omega) (by omega) ho) fun _ _ => ?_
        rcases stake_first (f := f) (n := n) (u := u) with ⟨hst, hem⟩ | ⟨j, hst, hj1, hj2, hj3, hj4⟩
        · rw [hst]
          rw [hem, List.length_nil] at hcn
          refine XL.nm ?_
          refine go (k := ?_)
          exact XE.mid (k + 1, u, c) [0, 1] ⟨⟨by simp only; omega, hu⟩, by simp only; omega⟩ ⟨rfl, rfl, rfl, rfl, rfl, rfl, rfl, trivial⟩ rfl rfl
        · rw [hst]
          have hinv := hu.on hj1 hj2 hj3
          have hspl := ucs_spl1 u hj2
          have hat0 : (ucs u n)[j * 1]? = some (iv 0) := by rw [Nat.mul_one, ucs_at u hj2, hj3]; rfl
          refine XL.nm ?_
          refine go (k := ?_)
          refine XC.loop (α := Nat) (fun i => [(2, .slice (some ⟨b1, o1, none⟩) acts.length m), (7, iv f), (8, iv n), (9, ptr b), (10, .slice (some ⟨b10, 0, none⟩) n n), (11, iv c), (12, iv k), (15, iv j), (17, iv i)])
            (fun _ => [spE b lv f n (upd u j true), .blk b10 (ucs u n) 3]) (fun i => f ≤ i ∧ i ≤ j) (fun i => j - i) f [0, 1] ⟨Nat.le_refl _, hj1⟩ ⟨rfl, rfl, rfl, rfl, rfl, rfl, rfl, rfl, rfl, trivial⟩ rfl rfl ?_
          intro i ⟨hi1, hi2⟩
          by_cases hij : i < j
          · have hati : (ucs u n)[i * 1]? = some (iv 1) := by rw [Nat.mul_one, ucs_at u (show i < n by omega), hj4 i hi1 hij]; rfl
            refine go (k := ?_)
            exact XE.mid (i + 1) [0, 1] ⟨by omega, by omega⟩ ⟨rfl, rfl, rfl, rfl, rfl, rfl, rfl, rfl, rfl, trivial⟩ rfl rfl
          · refine go (k := ?_)
            refine XL.nm ?_
            refine XL.call [0] [1] rfl rfl rfl rfl rfl (fun _ w _ ho => count_ok b lv f n (upd u j true) w (by omega) (by omega) ho) fun _ _ => ?_
            have hc2 := (hinv).cnt
            refine go (k := ?_)
            exact XE.mid (k + 1, upd u j true, c + 1) [0, 1] ⟨⟨by simp only; omega, hinv⟩, by simp only; omega⟩ ⟨rfl, rfl, rfl, rfl, rfl, rfl, rfl, trivial⟩ rfl rfl
      · refine go (k := ?_)
        refine XL.q (.ldRd (j := k * 2) rfl rfl rfl (hra _) (by omega) c1) rfl ?_
        refine go (k := ?_)
        refine XL.call [0] [1] rfl rfl rfl rfl rfl (fun _ w _ ho => take_ok b lv f n u w (by omega) (by omega) ho) fun _ _ => ?_
        rcases stake_first (f := f) (n := n) (u := u) with ⟨hst, hem⟩ | ⟨j, hst, hj1, hj2, hj3, hj4⟩
        · rw [hst]
          rw [hem, List.length_nil] at hcn
          refine XL.nm ?_
          refine go (k := ?_)
          exact XE.mid (k + 1, u, c) [0, 1] ⟨⟨by simp only; omega, hu⟩, by simp only; omega⟩ ⟨rfl, rfl, rfl, rfl, rfl, rfl, rfl, trivial⟩ rfl rfl
        · rw [hst]
          have hinv := hu.on hj1 hj2 hj3
          have hspl := ucs_spl1 u hj2
          have hat0 : (ucs u n)[j * 1]? = some (iv 0) := by rw [Nat.mul_one, ucs_at u hj2, hj3]; rfl
          refine XL.nm ?_
          refine go (k := ?_)
          refine XC.loop (α := Nat) (fun i => [(2, .slice (some ⟨b1, o1, none⟩) acts.length m), (7, iv f), (8, iv n), (9, ptr b), (10, .slice (some ⟨b10, 0, none⟩) n n), (11, iv c), (12, iv k), (15, iv j), (17, iv i)])
            (fun _ => [spE b lv f n (upd u j true), .blk b10 (ucs u n) 3]) (fun i => f ≤ i ∧ i ≤ j) (fun i => j - i) f [0, 1] ⟨Nat.le_refl _, hj1⟩ ⟨rfl, rfl, rfl, rfl, rfl, rfl, rfl, rfl, rfl, trivial⟩ rfl rfl ?_
          intro i ⟨hi1, hi2⟩
          by_cases hij : i < j
          · have hati : (ucs u n)[i * 1]? = some (iv 1) := by rw [Nat.mul_one, ucs_at u (show i < n by omega), hj4 i hi1 hij]; rfl
            refine go (k := ?_)
            exact XE.mid (i + 1) [0, 1] ⟨by omega, by omega⟩ ⟨rfl, rfl, rfl, rfl, rfl, rfl, rfl, rfl, rfl, trivial⟩ rfl rfl
          · refine go (k := ?_)
            refine XL.nm ?_
            refine XL.call [0] [1] rfl rfl rfl rfl rfl (fun _ w _ ho => count_ok b lv f n (upd u j true) w (by omega) (by omega) ho) fun _ _ => ?_
            have hc2 := (hinv).cnt
            refine go (k := ?_)
            exact XE.mid (k + 1, upd u j true, c + 1) [0, 1] ⟨⟨by simp only; omega, hinv⟩, by simp only; omega⟩ ⟨rfl, rfl, rfl, rfl, rfl, rfl, rfl, trivial⟩ rfl rfl
  · refine go (k := ?_)
    refine XC.addNil 3 1 ?_
    refine XC.loop (α := Nat × Value) (fun x => [(7, iv f), (8, iv n), (9, ptr b), (10, .slice (some ⟨b10, 0, none⟩) n n), (18, x.2), (19, iv x.1)])
      (fun x => [.sl x.2 3 1 (ivs (useds f x.1 u)), spE b lv f n u, .blk b10 (ucs u n) 3]) (fun x => f ≤ x.1 ∧ x.1 ≤ n) (fun x => n - x.1) (f, .slice none 0 0) [0, 1, 2] ⟨Nat.le_refl _, by simp only; omega⟩ ⟨rfl, rfl, rfl, rfl, rfl, rfl, trivial⟩ rfl (by rw [useds_self]; rfl) ?_
    rintro ⟨i, vl⟩ ⟨hi1, hi2⟩
    simp only at hi1 hi2 ⊢
    by_cases hin : i < n
    · have hati : (ucs u n)[i * 1]? = some (iv (if u i = true then 1 else 0)) := by rw [Nat.mul_one]; exact ucs_at u hin
      have hus := useds_snoc u hi1
      have hul := useds_len f i u
      have hfr : (decide ((f : Int) ≤ i) && decide ((i : Int) < n) && !u (i : Int).toNat) = !u i := by rw [decide_eq_true (show (f : Int) ≤ i by omega), decide_eq_true (show (i : Int) < n by omega)]; simp
      by_cases hui : u i = true
      · rw [if_pos hui] at hati hus
        rw [hui] at hfr
        refine go (k := ?_)
        refine XD.q (v := .bool false) (.call rfl rfl fun _ w hs => by have h := free_ok b lv f n u i w (by omega) (by omega) (hs.own.grp (.tail _ (.head _))); rw [hfr] at h; exact h) rfl ?_
        refine go (k := ?_)
        refine XL.make (.bslice rfl rfl rfl rfl rfl rfl) rfl fun _ _ hb => ?_
        obtain ⟨bs, rfl, rfl⟩ := hb
        refine XL.app (m := 1) (news := [iv i]) (L' := fun v'' => _ :: .sl v'' 3 1 (ivs (useds f i u) ++ [iv i]) :: _) rfl rfl rfl rfl rfl rfl (by decide) (.tail _ (.head _))
          (.blk (.head _) rfl (Nat.le_refl _) rfl) rfl (by simp only [ivs_len, List.length_singleton]; omega) (by simp only [ivs_len, List.length_singleton]; omega) (fun v'' => .there .here) rfl fun v'' => ?_
        rw [show ivs (useds f i u) ++ [iv (i : Int)] = ivs (useds f (i + 1) u) from by rw [hus, ivs_app]; rfl]
        refine go (k := ?_)
        exact XE.mid (i + 1, v'') [1, 2, 3] ⟨⟨by simp only; omega, by simp only; omega⟩, by simp only; omega⟩ ⟨rfl, rfl, rfl, rfl, rfl, rfl, trivial⟩ rfl rfl
      · have hui' : u i = false := by simpa using hui
        rw [if_neg hui] at hati hus
        rw [hui'] at hfr
        rw [List.append_nil] at hus
        refine go (k := ?_)
        refine XD.q (v := .bool true) (.call rfl rfl fun _ w hs => by have h := free_ok b lv f n u i w (by omega) (by omega) (hs.own.grp (.tail _ (.head _))); rw [hfr] at h; exact h) rfl ?_
        refine go (k := ?_)
        exact XE.mid (i + 1, vl) [0, 1, 2] ⟨⟨by simp only; omega, by simp only; omega⟩, by simp only; omega⟩ ⟨rfl, rfl, rfl, rfl, rfl, rfl, trivial⟩ rfl (by rw [hus]; rfl)
    · obtain rfl : i = n := by omega
      have hload := hu.load (by omega)
      have hul := useds_len f i u
      refine go (k := ?_)
      refine XL.call [] [0, 1, 2] rfl rfl rfl rfl rfl (fun _ w hs _ => load_ok f i vl (useds f i u) w (by omega) (by omega) ((hs.own.ok _ (.head _) : SlOk w vl _ 1 _).rowAt (by decide) (by rw [ivs_len, Nat.mul_one])) (by omega)) fun x hx => ?_
      obtain ⟨b2, lv2, rfl⟩ : ∃ b2 lv2, x = some (b2, lv2, u) := by
        rw [hx] at hload
        cases x with
        | none => cases hload
        | some y => exact ⟨y.1, y.2.1, by rw [← Option.some.inj hload]⟩
      refine XL.nm ?_
      refine go (k := ?_)
      refine XL.call [0] [2] rfl rfl rfl rfl rfl (fun _ w _ ho => count_ok b2 lv2 f i u w (by omega) (by omega) ho) fun _ _ => ?_
      refine XL.nm ?_
      refine go (k := ?_)
      refine XL.call [1] [0] rfl rfl rfl rfl rfl (fun _ w _ ho => count_ok b lv f i u w (by omega) (by omega) ho) fun _ _ => ?_
      refine XL.nm ?_
      refine go (k := ?_)
      refine XC.loop (α := Nat) (fun j => [(7, iv f), (8, iv i), (9, ptr b), (20, ptr b2), (22, iv j)]) (fun _ => [spE b lv f i u, spE b2 lv2 f i u]) (fun j => f ≤ j ∧ j ≤ i) (fun j => i - j) f [0, 1] ⟨Nat.le_refl _, by omega⟩ ⟨rfl, rfl, rfl, rfl, rfl, trivial⟩ rfl rfl ?_
      intro j ⟨hj1, hj2⟩
      by_cases hjn : j < i
      · refine go (k := ?_)
        refine XL.q (.call rfl rfl fun _ w hs => free_ok b2 lv2 f i u j w (by omega) (by omega) (hs.own.grp (.tail _ (.head _)))) rfl ?_
        refine go (k := ?_)
        refine XL.q (.call rfl rfl fun _ w hs => free_ok b lv f i u j w (by omega) (by omega) (hs.own.grp (.head _))) rfl ?_
        refine go (k := ?_)
        exact XE.mid (j + 1) [0, 1] ⟨by omega, by omega⟩ ⟨rfl, rfl, rfl, rfl, rfl, trivial⟩ rfl rfl
      · refine go (k := ?_)
        refine XL.q (.call rfl rfl fun _ w _ => awake_ok w) rfl ?_
        refine go (k := ?_)
        exact XE.ret1 () [] rfl rfl trivial rfl rfl rfl
end Go.X
