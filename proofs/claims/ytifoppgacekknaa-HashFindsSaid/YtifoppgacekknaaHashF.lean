/- Contracts: Of, Find, Same; the law's few, one, place. -/
import Derived.Test.YtifoppgacekknaaHashE
namespace Go.X
open Go Go.Proofs
theorem rof_ok (b : Nat) (v : Value) (rl : List (Nat × Int)) (j : Nat) (w : World) (hl : rl.length ≤ 1000000) (ho : Owns w (rixG b v rl)) :
    Fx Try.prog 14 [ptr b, iv j] w (Ret w (rixG b v rl) (fun v' : Value => v') (fun v' => .sl v' 35 1 (uvs (ofB j rl)) :: rixG b v rl) (fun _ => True)) := by
  refine Fx.of Try.func14 rfl (by kernel_rfl) Try.ntmps14 rfl ho ?_
  refine XC.slv (.tail _ (.head _)) fun ao q m hv hq hqm => ?_
  subst hv
  obtain rfl : q = rl.length := by rw [rcells_len] at hq; omega
  refine go (k := ?_)
  refine XC.addNil 35 1 ?_
  refine XC.loop (α := Nat × Value) (fun x => [(0, ptr b), (1, iv j), (5, x.2), (6, iv x.1)]) (fun x => .sl x.2 35 1 (uvs (ofB j (rl.take x.1))) :: rixG b (.slice ao rl.length m) rl)
    (fun x => x.1 ≤ rl.length) (fun x => rl.length - x.1) (0, .slice none 0 0) [0, 1, 2] (Nat.zero_le _) ⟨rfl, rfl, rfl, rfl, trivial⟩ rfl rfl ?_
  rintro ⟨k, u⟩ hk
  simp only at hk ⊢
  by_cases hkl : k < rl.length
  · obtain ⟨⟨j', x⟩, hp⟩ : ∃ p, rl[k]? = some p := ⟨_, List.getElem?_eq_getElem hkl⟩
    have hr : Rd w (ids (rixG b (.slice ao rl.length m) rl)) (.sl u 35 1 (uvs (ofB j (rl.take k))) :: rixG b (.slice ao rl.length m) rl) (.slice ao rl.length m) 2 rl.length (rcells rl) := .sl (.tail _ (.tail _ (.head _))) (by decide) (rcells_len rl).symm
    refine XC.rdv hr fun ao' m' hv' _ _ ha => ?_
    cases hv'
    obtain ⟨b1, o1, rfl⟩ : ∃ b off, ao = some ⟨b, off, none⟩ := ha.resolve_left (by omega)
    obtain ⟨h1, h2⟩ := rcells_at hp
    have hsn : ofB j (rl.take (k + 1)) = if j' = j then ofB j (rl.take k) ++ [x] else ofB j (rl.take k) := by rw [htake_snoc hp, ofB_app]
    have hbd : (ofB j (rl.take k)).length ≤ 1000000 := by
      unfold ofB; rw [List.length_map]
      exact Nat.le_trans (List.length_filter_le _ _) (by rw [List.length_take]; omega)
    refine go (k := ?_)
    refine XL.q (.ldRd (j := k * 2) rfl rfl rfl hr (by omega) h1) rfl ?_
    by_cases hj : (j' : Int) = (j : Int)
    · refine go (k := ?_)
      refine XL.q (.ldRd (j := k * 2 + 1) rfl rfl rfl hr (by omega) h2) rfl ?_
      refine go (k := ?_)
      refine XL.make (.bslice rfl rfl rfl rfl rfl rfl) rfl fun _ _ hb => ?_
      obtain ⟨b2, rfl, rfl⟩ := hb
      refine XL.app (m := 1) (news := [uv x]) (L' := fun v' => .blk b2 [uv x] 35 :: .sl v' 35 1 (uvs (ofB j (rl.take k)) ++ [uv x]) :: rixG b (.slice (some ⟨b1, o1, none⟩) rl.length m) rl) rfl rfl rfl rfl rfl rfl (by decide) (.tail _ (.head _)) (.blk (.head _) rfl (Nat.le_refl _) rfl) rfl
        (by simp; omega) (by simp; omega) (fun v' => .there .here) rfl fun v' => ?_
      have e1 : uvs (ofB j (rl.take k)) ++ [uv x] = uvs (ofB j (rl.take (k + 1))) := by rw [hsn, if_pos (by omega)]; exact (uvs_app _ [x]).symm
      rw [e1]
      refine go (k := ?_)
      exact XE.mid (k + 1, v') [1, 2, 3] ⟨by simp only; omega, by simp only; omega⟩ ⟨rfl, rfl, rfl, rfl, trivial⟩ rfl rfl
    · refine go (k := ?_)
      refine XE.mid (k + 1, u) [0, 1, 2] ⟨by simp only; omega, by simp only; omega⟩ ⟨rfl, rfl, rfl, rfl, trivial⟩ rfl ?_
      rw [hsn, if_neg (by omega)]; rfl
  · obtain rfl : k = rl.length := by omega
    rw [List.take_length]
    refine go (k := ?_)
    exact XE.ret1 u [0, 1, 2] rfl rfl trivial rfl rfl rfl
theorem rfind_ok (b : Nat) (v : Value) (rl : List (Nat × Int)) (s : List UInt8) (w : World) (hs : s.length ≤ 10000) (hl : rl.length ≤ 1000000) (ho : Owns w (rixG b v rl)) :
    Fx Try.prog 24 [ptr b, str s] w (Ret w (rixG b v rl) (fun v' : Value => v') (fun v' => .sl v' 35 1 (uvs (ofB (bucket s) rl)) :: rixG b v rl) (fun _ => True)) := by
  refine Fx.of Try.func24 rfl (by kernel_rfl) Try.ntmps24 rfl ho ?_
  refine go (k := ?_)
  refine XL.q (.call rfl rfl fun _ w _ => rbucket_ok s hs w) rfl ?_
  refine XL.call [0, 1] [] rfl rfl rfl rfl rfl (fun _ w _ ho => rof_ok b v rl (bucket s) w hl ho) fun v' _ => ?_
  refine go (k := ?_)
  exact XE.ret1 v' [0, 1, 2] rfl rfl trivial rfl rfl rfl

theorem same_ok (va vb : Value) (xs ws : List Int) (w : World) (ha : RowAt w va 1 xs.length (uvs xs)) (hb : RowAt w vb 1 ws.length (uvs ws)) (hl : xs.length ≤ 1000000) :
    Fx Try.prog 16 [va, vb] w (Pure w (.bool (decide (xs = ws)))) := by
  have hra : ∀ L : Heap, Rd w (ids []) L va 1 xs.length (uvs xs) := fun L => .old ha (fun _ _ _ => by simp [X.ids])
  have hrb : ∀ L : Heap, Rd w (ids []) L vb 1 ws.length (uvs ws) := fun L => .old hb (fun _ _ _ => by simp [X.ids])
  refine Fx.of (L0 := []) Try.func16 rfl (by kernel_rfl) Try.ntmps16 rfl (Owns.nil w) ?_
  refine XC.rdv (hra _) fun aa ma hva _ _ haa => ?_
  subst hva
  refine XC.rdv (hrb _) fun ab mb hvb _ _ hab => ?_
  subst hvb
  by_cases hlen : (xs.length : Int) = (ws.length : Int)
  · have hlen' : xs.length = ws.length := by omega
    refine go (k := ?_)
    refine XC.loop (α := Nat) (fun k => [(0, .slice aa xs.length ma), (1, .slice ab ws.length mb), (5, .int .i64 k)]) (fun _ => [])
      (fun k => k ≤ xs.length ∧ xs.take k = ws.take k) (fun k => xs.length - k) 0 [] ⟨Nat.zero_le _, rfl⟩ ⟨rfl, rfl, rfl, trivial⟩ rfl rfl ?_
    intro k ⟨hk, hpre⟩
    by_cases hkl : k < xs.length
    · obtain ⟨x1, hx1⟩ : ∃ x, xs[k]? = some x := ⟨_, List.getElem?_eq_getElem hkl⟩
      obtain ⟨x2, hx2⟩ : ∃ x, ws[k]? = some x := ⟨_, List.getElem?_eq_getElem (by omega)⟩
      obtain ⟨b1, o1, rfl⟩ : ∃ b off, aa = some ⟨b, off, none⟩ := haa.resolve_left (by omega)
      obtain ⟨b2, o2, rfl⟩ : ∃ b off, ab = some ⟨b, off, none⟩ := hab.resolve_left (by omega)
      have hv1 : (uvs xs)[k * 1]? = some (uv x1) := by simp [uvs, hx1]
      have hv2 : (uvs ws)[k * 1]? = some (uv x2) := by simp [uvs, hx2]
      by_cases hxx : x1 = x2
      · refine go (k := ?_)
        refine XD.q (.ldRd rfl rfl rfl (hra _) (by omega) hv1) rfl ?_
        refine go (k := ?_)
        refine XD.q (.ldRd rfl rfl rfl (hrb _) (by omega) hv2) rfl ?_
        refine go (k := ?_)
        refine XE.mid (k + 1) [] ⟨⟨by omega, ?_⟩, by omega⟩ ⟨rfl, rfl, rfl, trivial⟩ rfl rfl
        rw [htake_snoc hx1, htake_snoc hx2, hpre, hxx]
      · refine go (k := ?_)
        refine XD.q (.ldRd rfl rfl rfl (hra _) (by omega) hv1) rfl ?_
        refine go (k := ?_)
        refine XD.q (.ldRd rfl rfl rfl (hrb _) (by omega) hv2) rfl ?_
        refine go (k := ?_)
        refine XE.ret1 () [] rfl rfl trivial ?_ rfl rfl
        rw [decide_eq_false (fun e => hxx (by rw [e, hx2] at hx1; exact (Option.some.inj hx1).symm))]
    · obtain rfl : k = xs.length := by omega
      rw [List.take_length, hlen', List.take_length] at hpre
      refine go (k := ?_)
      refine XE.ret1 () [] rfl rfl trivial ?_ rfl rfl
      rw [decide_eq_true hpre]
  · refine go (k := ?_)
    refine XE.ret1 () [] rfl rfl trivial ?_ rfl rfl
    rw [decide_eq_false (fun e => hlen (by rw [e]))]

/-! ### The acts -/
structure HAct where
  what : Int
  s : List UInt8
  id : Int
def acells : List HAct → List Value
  | [] => []
  | a :: l => .int .u8 a.what :: str a.s :: uv a.id :: acells l
theorem acells_len : ∀ l, (acells l).length = l.length * 3
  | [] => rfl
  | p :: l => by simp only [acells, List.length_cons, acells_len l]; omega
theorem acells_at : ∀ {l : List HAct} {i : Nat} {a : HAct}, l[i]? = some a → (acells l)[i * 3]? = some (.int .u8 a.what) ∧ (acells l)[i * 3 + 1]? = some (str a.s) ∧ (acells l)[i * 3 + 2]? = some (uv a.id)
  | [], i, a, h => by simp at h
  | q :: l, 0, a, h => by simp at h; subst h; exact ⟨rfl, rfl, rfl⟩
  | q :: l, i + 1, a, h => by
    have := acells_at (l := l) (i := i) (by simpa using h)
    rw [show (i + 1) * 3 = i * 3 + 1 + 1 + 1 by omega]
    exact this
def fewB (l : List HAct) : Bool := (l.take 110).all (fun a => decide (a.s.length ≤ 300)) && decide (l.length ≤ 100)
theorem few_ok (v : Value) (acts : List HAct) (w : World) (hv : RowAt w v 3 acts.length (acells acts)) (hl : acts.length ≤ 9223372036854775807) (hs : ∀ a ∈ acts, a.s.length ≤ 9223372036854775807) :
    Fx Try.prog 10 [v] w (Pure w (.bool (fewB acts))) := by
  have hr : ∀ L : Heap, Rd w (ids []) L v 3 acts.length (acells acts) := fun L => .old hv (fun _ _ _ => by simp [X.ids])
  refine Fx.of (L0 := []) Try.func10 rfl (by kernel_rfl) Try.ntmps10 rfl (Owns.nil w) ?_
  refine XC.rdv (hr _) fun ao m hva _ _ haa => ?_
  subst hva
  refine go (k := ?_)
  refine XC.loop (α := Nat) (fun k => [(0, .slice ao acts.length m), (3, .int .i64 k)]) (fun _ => [])
    (fun k => k ≤ acts.length ∧ k ≤ 110 ∧ ∀ a ∈ acts.take k, a.s.length ≤ 300) (fun k => acts.length - k) 0 [] ⟨Nat.zero_le _, Nat.zero_le _, by simp⟩ ⟨rfl, rfl, trivial⟩ rfl rfl ?_
  intro k ⟨hk, hk1, hpre⟩
  by_cases hkl : k < acts.length
  · by_cases hkm : k < 110
    · obtain ⟨a, ha⟩ : ∃ x, acts[k]? = some x := ⟨_, List.getElem?_eq_getElem hkl⟩
      obtain ⟨b1, o1, rfl⟩ : ∃ b off, ao = some ⟨b, off, none⟩ := haa.resolve_left (by omega)
      obtain ⟨h1, h2, h3⟩ := acells_at ha
      have has := hs a (List.mem_of_getElem? ha)
      by_cases hlong : 300 < a.s.length
      · refine go (k := ?_)
        refine XL.q (.ldRd (j := k * 3 + 1) rfl rfl rfl (hr _) (by omega) h2) rfl ?_
        refine go (k := ?_)
        refine XE.ret1 () [] rfl rfl trivial ?_ rfl rfl
        have : fewB acts = false := by
          unfold fewB
          have hf : ((acts.take 110).all fun a => decide (a.s.length ≤ 300)) = false := by
            rw [List.all_eq_false]
            exact ⟨a, List.mem_of_getElem? (i := k) (by rw [List.getElem?_take, if_pos hkm]; exact ha), by simpa using hlong⟩
          rw [hf]; rfl
        rw [this]
      · refine go (k := ?_)
        refine XL.q (.ldRd (j := k * 3 + 1) rfl rfl rfl (hr _) (by omega) h2) rfl ?_
        refine go (k := ?_)
        refine XE.mid (k + 1) [] ⟨⟨by omega, by omega, ?_⟩, by omega⟩ ⟨rfl, rfl, trivial⟩ rfl rfl
        rw [htake_snoc ha]
        intro x hx
        rcases List.mem_append.1 hx with hx | hx
        · exact hpre x hx
        · rw [List.mem_singleton.1 hx]; omega
    · obtain rfl : k = 110 := by omega
      refine go (k := ?_)
      refine XE.ret1 () [] rfl rfl trivial ?_ rfl rfl
      have : fewB acts = decide ((acts.length : Int) ≤ 100) := by
        unfold fewB
        have hf : ((acts.take 110).all fun a => decide (a.s.length ≤ 300)) = true := by simpa using hpre
        rw [hf, Bool.true_and]
        exact decide_eq_decide.2 (by omega)
      rw [this]
  · obtain rfl : k = acts.length := by omega
    rw [List.take_length] at hpre
    refine go (k := ?_)
    refine XE.ret1 () [] rfl rfl trivial ?_ rfl rfl
    have : fewB acts = decide ((acts.length : Int) ≤ 100) := by
      unfold fewB
      have hf : ((acts.take 110).all fun a => decide (a.s.length ≤ 300)) = true := by
        rw [List.all_eq_true]; intro x hx; simpa using hpre x (List.mem_of_mem_take hx)
      rw [hf, Bool.true_and]
      exact decide_eq_decide.2 (by omega)
    rw [this]
end Go.X
