/- The laws' own helpers for package hash: finds, awake; HashBuckets. -/
import Derived.Test.YtifoppgacekknaaHashC
namespace Go.X
open Go Go.Proofs
theorem finds_ok (b : Nat) (ps : Ixs) (s : List UInt8) (v : Value) (xs ws : List Int) (vw : Value) (y : Ent) (w : World) (hs : s.length ≤ 10000) (hp : ps[bucket s]? = some (v, xs)) (hl : xs.length ≤ 1000000)
    (hw : ∀ w B, Rd w B [y] vw 1 ws.length (uvs ws)) (ho : Owns w [ixE b ps, y]) :
    Fx Try.prog 18 [ptr b, str s, vw] w (Ret w [ixE b ps, y] (fun _ : Unit => .bool (decide (xs = ws))) (fun _ => [ixE b ps, y]) (fun _ => True)) := by
  refine Fx.of Try.func18 rfl (by kernel_rfl) Try.ntmps18 rfl ho ?_
  have hrd : ∀ L w0 B, y ∈ L → Rd w0 B L vw 1 ws.length (uvs ws) := fun L w0 B hy w ho hk => hw w0 B w ⟨fun x hx => by rw [List.mem_singleton.1 hx]; exact ho.ok _ hy, by
    obtain ⟨i, hi⟩ := List.getElem?_of_mem hy
    simpa [X.ids] using ids_nodup_of ho.nd hi⟩ hk
  refine XC.rdv (hrd _ _ _ (.tail _ (.head _))) fun aw qw hvw _ hqw haw => ?_
  subst hvw
  refine go (k := ?_)
  refine XL.call [0] [1] rfl rfl rfl rfl rfl (fun _ w _ ho => find_ok b ps s v xs w hs hp hl ho) fun v' _ => ?_
  refine XL.slv (.head _) fun ao q m hv hq hqm => ?_
  subst hv
  obtain rfl : q = xs.length := by simpa using hq
  by_cases hlen : (xs.length : Int) = (ws.length : Int)
  · refine go (k := ?_)
    have hlen' : xs.length = ws.length := by omega
    refine XC.loop (α := Nat) (fun k => [(0, ptr b), (2, .slice aw ws.length qw), (7, .slice ao xs.length m), (8, .int .i64 k)]) (fun _ => [.sl (.slice ao xs.length m) 35 1 (uvs xs), ixE b ps, y])
      (fun k => k ≤ xs.length ∧ xs.take k = ws.take k) (fun k => xs.length - k) 0 [0, 1, 2] ⟨Nat.zero_le _, rfl⟩ ⟨rfl, rfl, rfl, rfl, trivial⟩ rfl rfl ?_
    intro k ⟨hk, hpre⟩
    by_cases hkl : k < xs.length
    · obtain ⟨x1, hx1⟩ : ∃ x, xs[k]? = some x := ⟨_, List.getElem?_eq_getElem hkl⟩
      obtain ⟨x2, hx2⟩ : ∃ x, ws[k]? = some x := ⟨_, List.getElem?_eq_getElem (by omega)⟩
      have hr1 : Rd w (ids [ixE b ps, y]) [.sl (.slice ao xs.length m) 35 1 (uvs xs), ixE b ps, y] (.slice ao xs.length m) 1 xs.length (uvs xs) := .sl (.head _) (by decide) (by simp)
      have hr2 := hrd [.sl (.slice ao xs.length m) 35 1 (uvs xs), ixE b ps, y] w (ids [ixE b ps, y]) (.tail _ (.tail _ (.head _)))
      refine XC.rdv hr1 fun ao' m' hv' _ _ ha => ?_
      cases hv'
      obtain ⟨b1, o1, rfl⟩ : ∃ b off, ao = some ⟨b, off, none⟩ := ha.resolve_left (by omega)
      obtain ⟨b2, o2, rfl⟩ : ∃ b off, aw = some ⟨b, off, none⟩ := haw.resolve_left (by omega)
      have hv1 : (uvs xs)[k * 1]? = some (uv x1) := by simp [uvs, hx1]
      have hv2 : (uvs ws)[k * 1]? = some (uv x2) := by simp [uvs, hx2]
      by_cases hxx : x1 = x2
      · refine go (k := ?_)
        refine XD.q (.ldRd rfl rfl rfl hr1 (by omega) hv1) rfl ?_
        refine go (k := ?_)
        refine XD.q (.ldRd rfl rfl rfl hr2 (by omega) hv2) rfl ?_
        refine go (k := ?_)
        refine XE.mid (k + 1) [0, 1, 2] ⟨⟨by omega, ?_⟩, by omega⟩ ⟨rfl, rfl, rfl, rfl, trivial⟩ rfl rfl
        rw [htake_snoc hx1, htake_snoc hx2, hpre, hxx]
      · refine go (k := ?_)
        refine XD.q (.ldRd rfl rfl rfl hr1 (by omega) hv1) rfl ?_
        refine go (k := ?_)
        refine XD.q (.ldRd rfl rfl rfl hr2 (by omega) hv2) rfl ?_
        refine go (k := ?_)
        refine XE.ret1 () [1, 2] rfl rfl trivial ?_ rfl rfl
        rw [decide_eq_false (fun e => hxx (by rw [e, hx2] at hx1; exact (Option.some.inj hx1).symm))]
    · obtain rfl : k = xs.length := by omega
      rw [List.take_length, hlen', List.take_length] at hpre
      refine go (k := ?_)
      refine XE.ret1 () [1, 2] rfl rfl trivial ?_ rfl rfl
      rw [decide_eq_true hpre]
  · refine go (k := ?_)
    refine XE.ret1 () [1, 2] rfl rfl trivial ?_ rfl rfl
    rw [decide_eq_false (fun e => hlen (by rw [e]))]

abbrev ps0 : Ixs := List.replicate 16 (.slice none 0 0, [])
theorem all_set {ps : Ixs} {j : Nat} {q : Value × List Int} {N : Nat} (h : ∀ p ∈ ps, p.2.length ≤ N) (hq : q.2.length ≤ N) : ∀ p ∈ ps.set j q, p.2.length ≤ N := fun p hp =>
  (List.mem_or_eq_of_mem_set hp).elim (h p) (fun e => e ▸ hq)
theorem all_ps0 {N : Nat} : ∀ p ∈ ps0, p.2.length ≤ N := fun p hp => by rw [(List.mem_replicate.1 hp).2]; exact Nat.zero_le _
theorem awake3_ok (w : World) : Fx Try.prog 7 [] w (Pure w (.bool true)) := by
  refine Fx.of (L0 := []) Try.func7 rfl (by kernel_rfl) Try.ntmps7 rfl (Owns.nil w) ?_
  have b1 : bucket [97, 98] = 9 := by decide
  have b2 : bucket [97] = 2 := by decide
  have b3 : bucket [113] = 2 := by decide
  refine go (k := ?_)
  refine XL.call [] [] rfl rfl rfl rfl rfl (fun _ w _ _ => new_ok w) fun b _ => ?_
  refine go (k := ?_)
  refine XL.q (.call rfl rfl fun _ w _ => hbucket_ok [97, 98] (by decide) w) rfl ?_
  rw [b1]
  refine go (k := ?_)
  refine XL.q (.call rfl rfl fun _ w _ => hbucket_ok [97] (by decide) w) rfl ?_
  rw [b2]
  refine go (k := ?_)
  refine XL.call [0] [] rfl rfl rfl rfl rfl (fun _ w _ ho => add_new b ps0 [97] 5 (.slice none 0 0) [] w (by decide) (by rw [b2]; rfl) (by decide) (by simp) ho) fun v1 _ => ?_
  rw [b2]
  refine go (k := ?_)
  refine XL.call [0] [] rfl rfl rfl rfl rfl (fun _ w _ ho => add_new b (ps0.set 2 (v1, [5])) [113] 6 v1 [5] w (by decide) (by rw [b3]; rfl) (by decide) (by simp) ho) fun v2 _ => ?_
  rw [b3]
  refine go (k := ?_)
  refine XL.make (.bslice rfl rfl rfl rfl rfl rfl) rfl fun v H hv => ?_
  obtain ⟨bw, rfl, rfl⟩ := hv
  refine go (k := ?_)
  refine XL.call [1, 0] [] rfl rfl rfl rfl rfl (fun _ w _ ho => finds_ok b _ [97] v2 [5, 6] [5, 6] _ _ w (by decide) (by rw [b2]; rfl) (by decide) (fun _ _ => .blk (.head _) rfl (Nat.le_refl _) rfl) ho) fun _ _ => ?_
  refine go (k := ?_)
  have e3 : (itemsFrom ((ps0.set 2 (v1, [5])).set 2 (v2, [5] ++ [6])) 0).length = 2 := rfl
  refine XL.call [0] [] rfl rfl rfl rfl rfl (fun _ w _ ho => len_ok b _ w rfl (all_set (all_set all_ps0 (by simp)) (by simp)) (by rw [e3]; decide) ho) fun _ _ => ?_
  rw [e3]
  refine go (k := ?_)
  exact XE.ret1 () [] rfl rfl trivial rfl rfl rfl
theorem hashBuckets_ok (l : List UInt8) (hl : l.length ≤ 9223372036854775807) (w : World) : Fx Try.prog 3 [str l] w (Pure w (.bool true)) := by
  refine Fx.of (L0 := []) Try.func3 rfl (by kernel_rfl) Try.ntmps3 rfl (Owns.nil w) ?_
  by_cases h : 10000 < l.length
  · refine go (k := ?_)
    refine XL.q (.call rfl rfl fun _ w _ => awake3_ok w) rfl ?_
    refine go (k := ?_)
    exact XE.ret1 () [] rfl rfl trivial rfl rfl rfl
  · have hb := bucket_lt l
    refine go (k := ?_)
    refine XL.q (.call rfl rfl fun _ w _ => hbucket_ok l (by omega) w) rfl ?_
    refine go (k := ?_)
    refine XL.q (.call rfl rfl fun _ w _ => rbucket_ok l (by omega) w) rfl ?_
    refine go (k := ?_)
    refine XL.q (.call rfl rfl fun _ w _ => awake3_ok w) rfl ?_
    refine go (k := ?_)
    exact XE.ret1 () [] rfl rfl trivial rfl rfl rfl
end Go.X
