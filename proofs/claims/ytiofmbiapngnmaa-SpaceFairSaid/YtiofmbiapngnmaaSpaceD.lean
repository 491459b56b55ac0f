/- Contracts: Copy; spaces that are none; the reference's functions. -/
import Derived.Test.YtiofmbiapngnmaaSpaceC
namespace Go.X
open Go Go.Proofs
theorem sclone_ok (v : Value) (xs : List Value) (m : Nat) (w : World) (hv : RowAt w v 4 m xs) (h1 : xs.all Value.oneCell' = true) (hm0 : 0 < m) (hm : m ≤ 1000) :
    Fx Try.prog 27 [v] w (Ret w [] (fun v : Value => v) (fun v => [.sl v 65 4 xs]) (fun _ => True)) := by
  have hv' := hv
  obtain ⟨ao, c, rfl, e1, e2, h3⟩ := hv'
  refine Fx.of (L0 := []) Try.func27 rfl (by kernel_rfl) Try.ntmps27 rfl (Owns.nil w) ?_
  refine go (k := ?_)
  refine XL.q (.eqNilSl rfl rfl rfl) rfl ?_
  cases ao with
  | none =>
    rcases h3 with h3 | ⟨_, _, _, _, _, h4, _⟩
    · omega
    · cases h4
  | some a =>
    refine go (k := ?_)
    refine XL.make (.bslice rfl rfl rfl rfl rfl rfl) rfl fun v H hb => ?_
    obtain ⟨b, rfl, rfl⟩ := hb
    refine go (k := ?_)
    have hrd : ∀ (L : Heap), Rd w (ids []) L (.slice (some a) m c) 4 m xs := fun L => .old hv (fun _ _ _ => by simp [X.ids])
    refine XL.make (.grow (xs := []) rfl rfl rfl rfl rfl rfl (by decide) .empty (hrd _) h1 (by omega) (by simp; omega) (by simp; omega)) rfl fun v H hb => ?_
    subst hb
    refine go (k := ?_)
    exact XE.ret1 v [0] rfl rfl trivial rfl rfl rfl
theorem copy_ok (b : Nat) (lv : Value) (f n : Nat) (u : Nat → Bool) (w : World) (h1 : f < n) (h2 : n ≤ 2048) (ho : Owns w (spG b lv f n u)) :
    Fx Try.prog 16 [ptr b] w (Ret w [] (fun x : Nat × Value => ptr x.1) (fun x => [spE x.1 x.2 f n u]) (fun _ => True)) := by
  have hk : ∀ w', Kept [] w w' → Owns w' (spG b lv f n u) := fun w' k => ho.of_kept k (fun _ _ h => by cases h)
  refine Fx.of (L0 := []) Try.func16 rfl (by kernel_rfl) Try.ntmps16 rfl (Owns.nil w) ?_
  have hin : decide (0 < (n : Int)) = true := decide_eq_true (by omega)
  have hb : w.heap[b]? = some (.cells [iv f, iv n, lv].toArray _ (0, 0)) := ho.ok _ (.head _)
  have hB : b ∉ ids ([] : Heap) := by simp [X.ids]
  have c0 : [iv f, iv n, lv][0 + 0]? = some (iv f) := rfl
  have c1 : [iv f, iv n, lv][0 + 1]? = some (iv n) := rfl
  have c2 : [iv f, iv n, lv][0 + 2]? = some lv := rfl
  have hp : 0 < pgs n ∧ pgs n ≤ 8 := by unfold pgs; omega
  refine go (k := ?_)
  refine XL.q (.call rfl rfl fun _ w hs => sis_ok b f n lv _ _ w ((hk w hs.kept).ok _ (.head _))) rfl ?_
  rw [hin]
  refine go (k := ?_)
  refine XD.make (.call rfl rfl fun _ w hs => sclone_ok lv (swds u (pgs n * 4)) (pgs n) w (((hk w hs.kept).ok _ (.tail _ (.head _)) : SlOk w lv _ 4 _).rowAt (by decide) (by rw [swds_len])) (swds_one _ _) hp.1 (by omega)) rfl rfl ?_
  refine XD.tail1 rfl (by decide +kernel) fun v H hv => ?_
  obtain ⟨v', _, rfl, rfl⟩ := hv
  refine XL.slv (.head _) fun ao q m hv _ _ => ?_
  subst hv
  refine go (k := ?_)
  refine XL.box rfl rfl rfl fun b' => ?_
  refine go (k := ?_)
  refine XE.all ?_
  exact XE.ret1 (b', .slice ao q m) [0] rfl rfl trivial rfl rfl rfl
/-! ### No space -/
def NotSp (x : Value) (w : World) : Prop := ∀ w', Kept [] w w' → Fx Try.prog 25 [x] w' (Pure w' (.bool false))
theorem NotSp.nil (w : World) : NotSp (.pointer none) w := fun w' _ => sis_nil w'
theorem NotSp.zero {b : Nat} {lv : Value} {t : TypeId} {fz : Nat × Nat} {w : World} (hb : w.heap[b]? = some (.cells [iv 0, iv 0, lv].toArray t fz)) : NotSp (ptr b) w := fun w' k =>
  sis_ok b 0 0 lv t fz w' ((k.same b (Array.getElem?_eq_some_iff.1 hb).1 (by simp)).trans hb)
theorem NotSp.on {x : Value} {w w' : World} (h : NotSp x w) (k : Kept [] w w') : NotSp x w' := fun w'' k' => h w'' (k.trans k' (fun _ h => by cases h))
theorem use_not (x : Value) (a : Int) (w : World) (h : NotSp x w) : Fx Try.prog 8 [x, iv a] w (Pure w (iv 1)) := by
  refine Fx.of (L0 := []) Try.func8 rfl (by kernel_rfl) Try.ntmps8 rfl (Owns.nil w) ?_
  refine go (k := ?_)
  refine XL.q (.call rfl rfl fun _ w' hs => rules_nil x a w' fun w'' k => (h.on hs.kept) w'' k) rfl ?_
  refine go (k := ?_)
  exact XE.ret1 () [] rfl rfl trivial rfl rfl rfl
theorem give_not (x : Value) (a : Int) (w : World) (h : NotSp x w) : Fx Try.prog 9 [x, iv a] w (Pure w (iv 1)) := by
  refine Fx.of (L0 := []) Try.func9 rfl (by kernel_rfl) Try.ntmps9 rfl (Owns.nil w) ?_
  refine go (k := ?_)
  refine XL.q (.call rfl rfl fun _ w' hs => rules_nil x a w' fun w'' k => (h.on hs.kept) w'' k) rfl ?_
  refine go (k := ?_)
  exact XE.ret1 () [] rfl rfl trivial rfl rfl rfl
theorem free_not (x : Value) (a : Int) (w : World) (h : NotSp x w) : Fx Try.prog 12 [x, iv a] w (Pure w (.bool false)) := by
  refine Fx.of (L0 := []) Try.func12 rfl (by kernel_rfl) Try.ntmps12 rfl (Owns.nil w) ?_
  refine go (k := ?_)
  refine XL.q (.call rfl rfl fun _ w' hs => rules_nil x a w' fun w'' k => (h.on hs.kept) w'' k) rfl ?_
  refine go (k := ?_)
  exact XE.ret1 () [] rfl rfl trivial rfl rfl rfl
theorem copy_not (x : Value) (w : World) (h : NotSp x w) : Fx Try.prog 16 [x] w (Pure w (.pointer none)) := by
  refine Fx.of (L0 := []) Try.func16 rfl (by kernel_rfl) Try.ntmps16 rfl (Owns.nil w) ?_
  refine go (k := ?_)
  refine XL.q (.call rfl rfl fun _ w' hs => h w' hs.kept) rfl ?_
  refine go (k := ?_)
  exact XE.ret1 () [] rfl rfl trivial rfl rfl rfl
theorem take_not (x : Value) (hx : x.cells.toList = [x]) (w : World) (h : NotSp x w) : Fx Try.prog 10 [x] w (Pure w (.tuple #[iv 0, iv 1])) := by
  refine Fx.of (L0 := []) Try.func10 rfl (by kernel_rfl) Try.ntmps10 rfl (Owns.nil w) ?_
  refine go (k := ?_)
  refine XL.box rfl hx rfl fun b1 => ?_
  refine XL.alloc rfl rfl rfl fun b2 => ?_
  refine XL.alloc rfl rfl rfl fun b3 => ?_
  refine go (k := ?_)
  refine XL.q (.call rfl rfl fun _ w' hs => h w' hs.kept) rfl ?_
  refine go (k := ?_)
  exact XE.retC2 () [] rfl rfl rfl rfl rfl rfl rfl (.tail _ (.head _)) rfl (.head _) rfl trivial rfl rfl rfl
theorem count_not (x : Value) (hx : x.cells.toList = [x]) (G : Heap) (w : World) (hG : ∀ w, Owns w G → Fx Try.prog 25 [x] w (Pure w (.bool false))) (ho : Owns w [grp G]) :
    Fx Try.prog 11 [x] w (Ret w [grp G] (fun _ : Unit => iv 0) (fun _ => [grp G]) (fun _ => True)) := by
  refine Fx.of Try.func11 rfl (by kernel_rfl) Try.ntmps11 rfl ho ?_
  refine go (k := ?_)
  refine XL.alloc rfl rfl rfl fun bn => ?_
  refine go (k := ?_)
  refine XL.call [] [0, 1] rfl rfl rfl rfl rfl (fun _ w _ _ => sall_ok x hx w) fun bx _ => ?_
  refine go (k := ?_)
  refine XC.rangeFunc (α := Unit) (β := Empty) (H := fun c => [.blk bn [.int .i64 0] 3]) (φ := fun k c => True) (Z := fun _ => []) (ψ := fun _ => False) (jmp := fun _ => .ret) () [0, 2, 1]
    (fun vs => zipE [6] vs [(3, ptr bn)]) rfl (sall_not x G bx hG) trivial rfl rfl (fun k vs h => by simp at h) rfl (fun l k vs w L' h => by simp at h) (fun l k vs x w h => by simp at h) ?_ (fun _ y => y.elim)
  intro D x hx
  refine go (k := ?_)
  refine XE.mark (.inl rfl) .here ?_
  exact XE.ret1 () [2] rfl rfl trivial rfl rfl rfl
/-! ### The reference -/
abbrev rsG (b : Nat) (v : Value) (f n : Int) (l : List Int) : Heap := [.blk b [iv f, iv n, v] 48, .sl v 3 1 (ivs l)]
theorem may_ok (f n : Int) (w : World) : Fx Try.prog 15 [iv f, iv n] w (Pure w (.bool (decide (0 ≤ f ∧ f < n ∧ n ≤ 2048)))) := by
  refine Fx.of (L0 := []) Try.func15 rfl (by kernel_rfl) Try.ntmps15 rfl (Owns.nil w) ?_
  by_cases h0 : 0 ≤ f
  · by_cases h1 : f < n
    · refine go (k := ?_)
      refine XE.ret1 () [] rfl rfl trivial ?_ rfl rfl
      simp [h0, h1]
    · refine go (k := ?_)
      refine XE.ret1 () [] rfl rfl trivial ?_ rfl rfl
      simp [h1]
  · refine go (k := ?_)
    refine XE.ret1 () [] rfl rfl trivial ?_ rfl rfl
    simp [h0]
theorem rat_ok (b : Nat) (v : Value) (f n : Int) (l : List Int) (x : Int) (w : World) (hl : l.length ≤ 1000000) (ho : Owns w (rsG b v f n l)) :
    Fx Try.prog 30 [ptr b, iv x] w (Pure w (iv (idxOf x l))) := by
  have hb : w.heap[b]? = some (.cells [iv f, iv n, v].toArray _ (0, 0)) := ho.ok _ (.head _)
  have hB : b ∉ ids ([] : Heap) := by simp [X.ids]
  have c2 : [iv f, iv n, v][0 + 2]? = some v := rfl
  have hra : RowAt w v 1 l.length (ivs l) := (ho.ok _ (.tail _ (.head _)) : SlOk w v _ 1 _).rowAt (by decide) (by simp)
  have hr : ∀ L : Heap, Rd w (ids []) L v 1 l.length (ivs l) := fun L => .old hra (fun _ _ _ => by simp [X.ids])
  refine Fx.of (L0 := []) Try.func30 rfl (by kernel_rfl) Try.ntmps30 rfl (Owns.nil w) ?_
  refine XC.rdv (hr _) fun ao m hva _ _ haa => ?_
  subst hva
  refine go (k := ?_)
  refine XC.loop (α := Nat) (fun k => [(0, ptr b), (1, iv x), (5, iv k)]) (fun _ => [])
    (fun k => k ≤ l.length ∧ x ∉ l.take k) (fun k => l.length - k) 0 [] ⟨Nat.zero_le _, by simp⟩ ⟨rfl, rfl, rfl, trivial⟩ rfl rfl ?_
  intro k ⟨hk, hn⟩
  by_cases hkl : k < l.length
  · obtain ⟨y, hy⟩ : ∃ y, l[k]? = some y := ⟨_, List.getElem?_eq_getElem hkl⟩
    obtain ⟨b1, o1, rfl⟩ : ∃ b off, ao = some ⟨b, off, none⟩ := haa.resolve_left (by omega)
    have hv1 : (ivs l)[k * 1]? = some (iv y) := by simp [ivs, hy]
    by_cases hxy : y = x
    · subst hxy
      refine go (k := ?_)
      refine XL.q (.ldRd rfl rfl rfl (hr _) (by omega) hv1) rfl ?_
      refine go (k := ?_)
      refine XE.ret1 () [] rfl rfl trivial ?_ rfl rfl
      rw [idxOf_at hy hn]
    · refine go (k := ?_)
      refine XL.q (.ldRd rfl rfl rfl (hr _) (by omega) hv1) rfl ?_
      refine go (k := ?_)
      refine XE.mid (k + 1) [] ⟨⟨by omega, ?_⟩, by omega⟩ ⟨rfl, rfl, rfl, trivial⟩ rfl rfl
      rw [htake_snoc hy]; simp [hn, Ne.symm hxy]
  · have hk' : k = l.length := by omega
    subst hk'
    rw [List.take_length] at hn
    refine go (k := ?_)
    refine XE.ret1 () [] rfl rfl trivial ?_ rfl rfl
    rw [idxOf_none hn]
end Go.X
