/- Cut. -/
import Derived.Test.YtoeejaikmhedoaaNetF
namespace Go.X
open Go Go.Proofs
section
variable {P : Program} {r : Option Nat} {w0 : World} {B : List Nat} {n : Nat} {Q : Post} {e : Env} {ds : List Deferred} {L : Heap} {α : Type} {f : α → Ent} {ps : List α} {j : Nat} {p q : α} {x : Ent}
/-- a group opened at one place of its list -/
theorem Sit.openP {a : Act} {w : World} (hp : ps[j]? = some p) (hs : Sit w0 B n e ds (grp (x :: ps.map f) :: L) a w) : Sit w0 B n e ds (f p :: x :: (L ++ [grp ((ps.eraseIdx j).map f)])) a w := by
  have h1 := hs.openG
  have hperm : List.Perm ((x :: ps.map f) ++ L) ((f p :: x :: L) ++ (ps.eraseIdx j).map f) := by
    refine (List.Perm.append_right L (((perm_out hp).cons x).trans (.swap _ _ _))).trans ?_
    show List.Perm (f p :: x :: ((ps.eraseIdx j).map f ++ L)) (f p :: x :: (L ++ (ps.eraseIdx j).map f))
    exact (List.perm_append_comm.cons _).cons _
  exact (h1.perm hperm).grpR
theorem Sit.shutP {a : Act} {w : World} (hj : j < ps.length) (hs : Sit w0 B n e ds (f q :: x :: (L ++ [grp ((ps.eraseIdx j).map f)])) a w) : Sit w0 B n e ds (grp (x :: (ps.set j q).map f) :: L) a w := by
  have h1 := Sit.ungrpR (L := f q :: x :: L) hs
  have hperm : List.Perm ((f q :: x :: L) ++ (ps.eraseIdx j).map f) ((x :: (ps.set j q).map f) ++ L) := by
    refine List.Perm.trans ?_ (List.Perm.append_right L ((List.Perm.swap _ _ _).trans ((perm_in hj).cons x)))
    show List.Perm (f q :: x :: (L ++ (ps.eraseIdx j).map f)) (f q :: x :: ((ps.eraseIdx j).map f ++ L))
    exact (List.perm_append_comm.cons _).cons _
  exact (h1.perm hperm).shutG
theorem XC.openP {c : Code} (hp : ps[j]? = some p) (h : XC P r w0 B n c Q e ds (f p :: x :: (L ++ [grp ((ps.eraseIdx j).map f)]))) : XC P r w0 B n c Q e ds (grp (x :: ps.map f) :: L) := ⟨fun a w hs => h.run a w (hs.openP hp)⟩
theorem XE.shutP {ex : Exit} (hj : j < ps.length) (h : XE w0 B n ex Q e ds (grp (x :: (ps.set j q).map f) :: L)) : XE w0 B n ex Q e ds (f q :: x :: (L ++ [grp ((ps.eraseIdx j).map f)])) := ⟨fun a w hs => h.run a w (hs.shutP hj)⟩
end
/-- a way is emptied, if it leads to r -/
def cstep (r : Nat) (x : Nat × List Wy) (p : Nat × Nat) : Nat × List Wy := if p.2 = r then (x.1 + (wl x.2 p.1 r).length, x.2.set (p.1 * 8 + r) (nil0, [])) else x
def ccut (r : Nat) (x : Nat × List Wy) (l : List (Nat × Nat)) : Nat × List Wy := l.foldl (cstep r) x
theorem ccut_snoc (r : Nat) (x : Nat × List Wy) (l : List (Nat × Nat)) (p : Nat × Nat) : ccut r x (l ++ [p]) = cstep r (ccut r x l) p := by simp [ccut]
/-- where the pairs are within 8 -/
def In8 (l : List (Nat × Nat)) : Prop := ∀ p ∈ l, p.1 < 8 ∧ p.2 < 8
theorem ccut_len (r : Nat) : ∀ (l : List (Nat × Nat)) (x : Nat × List Wy), (ccut r x l).2.length = x.2.length
  | [], x => rfl
  | p :: l, x => by
    show (ccut r (cstep r x p) l).2.length = _
    rw [ccut_len r l]
    unfold cstep; split
    · simp
    · rfl
theorem cstep_wl {r : Nat} {x : Nat × List Wy} {p : Nat × Nat} (hl : x.2.length = 64) (hp : p.1 < 8) (hr : r < 8) {f t : Nat} (ht : t < 8) : wl (cstep r x p).2 f t = if f = p.1 ∧ t = r ∧ p.2 = r then [] else wl x.2 f t := by
  unfold cstep
  by_cases h : p.2 = r
  · rw [if_pos h]
    show wl (x.2.set (p.1 * 8 + r) (nil0, [])) f t = _
    rw [wl_set x.2 hr ht (by omega)]
    by_cases h2 : f = p.1 ∧ t = r
    · rw [if_pos h2, if_pos ⟨h2.1, h2.2, h⟩]
    · rw [if_neg h2, if_neg (fun h3 => h2 ⟨h3.1, h3.2.1⟩)]
  · rw [if_neg h, if_neg (fun h3 => h h3.2.2)]
theorem ccut_wl {r : Nat} (hr : r < 8) {f t : Nat} (ht : t < 8) : ∀ (l : List (Nat × Nat)) (x : Nat × List Wy), x.2.length = 64 → In8 l → wl (ccut r x l).2 f t = if t = r ∧ (f, r) ∈ l then [] else wl x.2 f t
  | [], x, _, _ => by rw [if_neg (fun h => by cases h.2)]; rfl
  | p :: l, x, hl, h8 => by
    have hp := h8 p (.head _)
    show wl (ccut r (cstep r x p) l).2 f t = _
    rw [ccut_wl hr ht l (cstep r x p) ((ccut_len r [p] x).trans hl) (fun q hq => h8 q (.tail _ hq)), cstep_wl hl hp.1 hr ht]
    by_cases h1 : t = r
    · subst h1
      by_cases h2 : (f, t) ∈ l
      · rw [if_pos ⟨rfl, h2⟩, if_pos ⟨rfl, .tail _ h2⟩]
      · rw [if_neg (fun h => h2 h.2)]
        by_cases h3 : f = p.1 ∧ p.2 = t
        · obtain ⟨rfl, h3⟩ := h3
          rw [if_pos ⟨rfl, rfl, h3⟩, if_pos ⟨rfl, by obtain ⟨a, b⟩ := p; simp only at h3; subst h3; exact .head _⟩]
        · rw [if_neg (fun h => h3 ⟨h.1, h.2.2⟩), if_neg (fun h => by
            rcases List.mem_cons.1 h.2 with e | e
            · exact h3 (by rw [← e]; exact ⟨rfl, rfl⟩)
            · exact h2 e)]
    · simp [h1]
theorem wall_in8 {ps : List Wy} {n : Nat} (hn : n ≤ 8) : In8 (wall ps n) := fun p hp => by
  have := wpre_mem.1 hp; omega
theorem ccut_nw {r : Nat} (hr : r < 8) {l : List (Nat × Nat)} {x : Nat × List Wy} (h : NW x.2) (h8 : In8 l) : NW (ccut r x l).2 where
  len := (ccut_len r l x).trans h.len
  diag := fun f hf => by
    rw [ccut_wl hr hf l x h.len h8]
    split
    · rfl
    · exact h.diag f hf
  le := fun f t => by
    by_cases ht : t < 8
    · rw [ccut_wl hr ht l x h.len h8]
      split
      · exact Nat.zero_le _
      · exact h.le f t
    · have e : f * 8 + t = (f + t / 8) * 8 + t % 8 := by omega
      have e2 : wl (ccut r x l).2 f t = wl (ccut r x l).2 (f + t / 8) (t % 8) := by unfold wl; rw [e]
      rw [e2, ccut_wl hr (Nat.mod_lt _ (by decide)) l x h.len h8]
      split
      · exact Nat.zero_le _
      · exact h.le _ _
theorem ccut_lost (r : Nat) : ∀ (l : List (Nat × Nat)) (x : Nat × List Wy), (∀ f t, (wl x.2 f t).length ≤ 64) → r < 8 → x.2.length = 64 → In8 l → (ccut r x l).1 ≤ x.1 + 64 * l.length
  | [], x, _, _, _, _ => Nat.le_refl _
  | p :: l, x, h, hr, hl, h8 => by
    show (ccut r (cstep r x p) l).1 ≤ _
    have h1 := ccut_lost r l (cstep r x p) (fun f t => by
      unfold cstep
      split
      · show (wl (x.2.set _ _) f t).length ≤ 64
        have e : f * 8 + t = (f + t / 8) * 8 + t % 8 := by omega
        have e2 : wl (x.2.set (p.1 * 8 + r) (nil0, [])) f t = wl (x.2.set (p.1 * 8 + r) (nil0, [])) (f + t / 8) (t % 8) := by unfold wl; rw [e]
        have := (h8 p (.head _)).1
        rw [e2, wl_set x.2 hr (Nat.mod_lt _ (by decide)) (by omega)]
        split
        · exact Nat.zero_le _
        · exact h _ _
      · exact h f t) hr ((ccut_len r [p] x).trans hl) (fun q hq => h8 q (.tail _ hq))
    have h2 : (cstep r x p).1 ≤ x.1 + 64 := by
      unfold cstep
      split
      · have := h p.1 r; simp only; omega
      · omega
    rw [List.length_cons]; omega
theorem wall_len {ps : List Wy} {n : Nat} : (wall ps n).length ≤ n * n := by
  have h1 : ∀ f t, (wrow ps f t).length ≤ t := fun f t => by
    unfold wrow; rw [List.length_map]; exact Nat.le_trans (List.length_filter_le _ _) (by simp)
  have h2 : ∀ j, (wpre ps n j).length ≤ j * n := fun j => by
    induction j with
    | zero => simp [wpre]
    | succ j ih => rw [wpre_snoc, List.length_append, Nat.succ_mul]; have := h1 j n; omega
  exact h2 n
theorem cut_nil (r : Int) (w : World) : Fx Try.prog 15 [.pointer none, iv r] w (Pure w (iv 1)) := by
  refine Fx.of (L0 := []) Try.func15 rfl (by kernel_rfl) Try.ntmps15 rfl (Owns.nil w) ?_
  refine go (k := ?_)
  refine XL.box rfl rfl rfl fun b2 => ?_
  refine go (k := ?_)
  refine XL.box rfl rfl rfl fun b3 => ?_
  refine go (k := ?_)
  exact XE.ret1 () [] rfl rfl trivial rfl rfl rfl
theorem cut_bad (b : Nat) (n : Int) (t : TypeId) (fz : Nat × Nat) (cs : List Value) (r : Int) (w : World) (hn : n ≠ 0) (h : ¬ (0 ≤ r ∧ r < n)) (hb : w.heap[b]? = some (.cells (iv n :: cs).toArray t fz)) : Fx Try.prog 15 [ptr b, iv r] w (Pure w (iv 2)) := by
  refine Fx.of (L0 := []) Try.func15 rfl (by kernel_rfl) Try.ntmps15 rfl (Owns.nil w) ?_
  have hB : b ∉ ids ([] : Heap) := by simp [X.ids]
  have h0 : (iv n :: cs)[0 + 0]? = some (iv n) := rfl
  refine go (k := ?_)
  refine XL.box rfl rfl rfl fun b2 => ?_
  refine go (k := ?_)
  refine XL.box rfl rfl rfl fun b3 => ?_
  refine go (k := ?_)
  refine XL.q (.call rfl rfl fun _ w' hs => replica_at b n t fz cs r w' ((hs.kept.same b (Array.getElem?_eq_some_iff.1 hb).1 (by simp [X.ids])).trans hb)) rfl ?_
  rw [decide_eq_false h]
  refine go (k := ?_)
  exact XE.ret1 () [] rfl rfl trivial rfl rfl rfl
set_option maxHeartbeats 2000000 in
theorem cut_ok (b n r : Nat) (lost : Nat) (ps : List Wy) (w : World) (hn0 : 0 < n) (hn : n ≤ 8) (hr : r < n) (hlo : lost ≤ 1000000000) (hw : NW ps) (ho : Owns w [netE b n lost ps]) :
    Fx Try.prog 15 [ptr b, iv r] w (Ret w [netE b n lost ps] (fun _ : Unit => iv 0) (fun _ => [netE b n (ccut r (lost, ps) (wall ps n)).1 (ccut r (lost, ps) (wall ps n)).2]) (fun _ => True)) := by
  refine Fx.of Try.func15 rfl (by kernel_rfl) Try.ntmps15 rfl ho ?_
  have h0 : (netCs n lost ps)[0 + 0]? = some (iv n) := rfl
  refine go (k := ?_)
  refine XL.box (zs := [ptr b]) rfl rfl rfl fun b2 => ?_
  refine go (k := ?_)
  refine XL.box (zs := [iv r]) rfl rfl rfl fun b3 => ?_
  refine go (k := ?_)
  refine XL.q (.inG (.tail _ (.tail _ (.head _))) (.ld rfl rfl rfl (.head _) h0)) rfl ?_
  have hnz : ¬ (n : Int) = 0 := by omega
  refine go (k := ?_)
  refine XL.q (.call rfl rfl fun _ w' hs => replica_at b n _ _ _ r w' ((hs.own.grp (.tail _ (.tail _ (.head _)))).ok _ (.head _))) rfl ?_
  rw [decide_eq_true (show 0 ≤ (r : Int) ∧ (r : Int) < n by omega)]
  refine go (k := ?_)
  refine XL.call [] [0, 1, 2] rfl rfl rfl rfl rfl (fun _ w _ _ => ways_ok (ptr b) rfl w) fun bx _ => ?_
  refine XL.nm ?_
  refine go (k := ?_)
  have hin : ∀ k, In8 ((wall ps n).take k) := fun k p hp => wall_in8 hn p (List.mem_of_mem_take hp)
  have hwl := wall_len (ps := ps) (n := n)
  have hnn : n * n ≤ 8 * 8 := Nat.mul_le_mul hn hn
  refine XC.rangeFuncA (α := Nat × List Wy) (β := Empty) (Lc := fun x => [.blk bx [ptr b] 23, netE b n x.1 x.2]) (H := fun _ => [.blk b2 [ptr b] 23, .blk b3 [iv r] 3]) (φ := fun k x => x = ccut r (lost, ps) ((wall ps n).take k))
    (Z := fun _ => []) (ψ := fun _ => False) (jmp := fun _ => .ret) (xs := witems ps n) (lost, ps) [0, 3, 2, 1]
    (fun vs => zipE [5, 6] vs [(2, ptr b2), (3, ptr b3)]) rfl (ways_seq bx b n hn ps (fun x => x) (fun k x => x = ccut r (lost, ps) ((wall ps n).take k)) (fun k x hx => ?_)) rfl rfl rfl ?_ rfl ?_ ?_ ?_ (fun _ y => y.elim)
  · subst hx
    refine ⟨ccut_nw (by omega) hw (hin k), fun f t hf ht hnot => ?_⟩
    unfold nz
    rw [ccut_wl (by omega) (by omega) _ _ hw.len (hin k)]
    by_cases e : t = r ∧ (f, r) ∈ (wall ps n).take k
    · exact absurd (by rw [e.1]; exact e.2) hnot
    · rw [if_neg e]
  · intro k vs hvs
    unfold witems at hvs
    rw [List.getElem?_map] at hvs
    obtain ⟨p, _, rfl⟩ := Option.map_eq_some_iff.1 hvs
    rfl
  · intro l k vs w L' hvs
    unfold witems at hvs
    rw [List.getElem?_map] at hvs
    obtain ⟨p, _, rfl⟩ := Option.map_eq_some_iff.1 hvs
    refine go (k := ?_)
    exact XE.midI () trivial ⟨rfl, rfl, rfl, rfl, trivial⟩ rfl
  · intro l k vs x w hvs hx _
    unfold witems at hvs
    rw [List.getElem?_map] at hvs
    obtain ⟨⟨f, t⟩, hft, rfl⟩ := Option.map_eq_some_iff.1 hvs
    have hmem := wpre_mem.1 (List.mem_of_getElem? hft)
    simp only at hmem
    have hx2 : ccut r (lost, ps) ((wall ps n).take (k + 1)) = cstep r x (f, t) := by rw [take_snoc hft, ccut_snoc, hx]
    have hxw : NW x.2 := by rw [hx]; exact ccut_nw (by omega) hw (hin k)
    have hxl := ccut_lost r ((wall ps n).take k) (lost, ps) hw.le (by omega) hw.len (hin k)
    rw [← hx, List.length_take] at hxl
    simp only at hxl
    obtain ⟨lo, qs⟩ := x
    simp only at hxw hxl ⊢
    by_cases htr : t = r
    · subst htr
      have hlt : f * 8 + t < qs.length := by rw [hxw.len]; omega
      obtain ⟨v, hv⟩ := wl_get hlt
      have hle := hxw.le f t
      have hst : cstep t (lo, qs) (f, t) = (lo + (wl qs f t).length, qs.set (f * 8 + t) (nil0, [])) := by unfold cstep; rw [if_pos rfl]
      refine XC.pk [1, 0, 2, 3] rfl rfl ?_
      refine XC.openP (f := wyf) hv ?_
      refine XC.rdv (.sl (m := (wl qs f t).length) (.head _) (by decide) (by simp)) fun ao m hva _ _ _ => ?_
      subst hva
      have hat := net_at (n := n) (lost := lo) hv
      have hat2 := net_at (n := n) (lost := lo + (wl qs f t).length) hv
      have sp1 := net_lost (n := n) (lost := lo) qs (wl qs f t).length
      have sp2 := net_set (n := n) (lost := lo + (wl qs f t).length) hv (nil0, [])
      have g1 : (netCs n lo qs)[0 + 1]? = some (iv lo) := rfl
      refine go (k := ?_)
      refine XE.addNil 9 1 ?_
      refine XE.pk (M := wyf (nil0, []) :: .blk b (netCs n (lo + (wl qs f t).length) (qs.set (f * 8 + t) (nil0, []))) 60 :: ([.blk bx [ptr b] 23, .blk b2 [ptr b] 23, .blk b3 [iv t] 3] ++ [grp ((qs.eraseIdx (f * 8 + t)).map wyf)])) [0, 2, 3, 4, 5, 6] rfl rfl ?_
      refine XE.shutP (f := wyf) (q := (nil0, [])) hlt ?_
      exact XE.round (lo + (wl qs f t).length, qs.set (f * 8 + t) (nil0, [])) [1, 0, 2, 3] (by rw [hx2, hst]) rfl rfl
    · have hst : cstep r (lo, qs) (f, t) = (lo, qs) := by unfold cstep; rw [if_neg htr]
      have htr' : ¬ (t : Int) = (r : Int) := by omega
      refine go (k := ?_)
      exact XE.round (lo, qs) [0, 1, 2, 3] (by rw [hx2, hst]) rfl rfl
  · intro D x hx
    unfold witems at hx
    rw [List.length_map, List.take_length] at hx
    subst hx
    refine go (k := ?_)
    refine XE.mark (.inl rfl) .here ?_
    exact XE.ret1 () [2] rfl rfl trivial rfl rfl rfl
end Go.X
