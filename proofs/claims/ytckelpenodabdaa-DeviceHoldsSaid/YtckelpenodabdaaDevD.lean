/- The laws' own helpers for package device: given, begins, left, awake. -/
import Derived.Test.YtckelpenodabdaaDevC
namespace Go.X
open Go Go.Proofs
def G5 : Slot := ⟨zbytes 64, padTo [97, 98], true⟩
def gds : List Slot := (List.replicate 256 slot0).set 5 G5
theorem rep_ok (n : Nat) : Oks (List.replicate n slot0) := fun s hs => by rw [(List.mem_replicate.1 hs).2]; exact slot0_ok
theorem zbytes_len (n : Nat) : (zbytes n).length = n := List.length_replicate
theorem rep_at {n k : Nat} (h : k < n) : (List.replicate n slot0)[k]? = some slot0 := by rw [List.getElem?_replicate, if_pos h]
theorem G5_ok : G5.ok := ⟨zbytes_len 64, padTo_len (by decide)⟩
theorem gds_ok : Oks gds := (rep_ok 256).set G5_ok
theorem gds_len : gds.length = 256 := by unfold gds; rw [List.length_set, List.length_replicate]
theorem gds_5 : gds[5]? = some G5 := by unfold gds; rw [List.getElem?_set_self (by rw [List.length_replicate]; decide)]
theorem given_ok (w : World) : Fx Try.prog 45 [] w (Ret w [] (fun x : Nat × Value => ptr x.1) (fun x => [devE x.1 x.2 gds]) (fun _ => True)) := by
  refine Fx.of (L0 := []) Try.func45 rfl (by kernel_rfl) Try.ntmps45 rfl (Owns.nil w) ?_
  refine go (k := ?_)
  refine XL.call [] [] rfl rfl rfl rfl rfl (fun _ w _ _ => dnew_ok 256 w (by decide) (by decide)) fun x _ => ?_
  obtain ⟨b, lv⟩ := x
  refine go (k := ?_)
  refine XL.call [0] [] rfl rfl rfl rfl rfl (fun _ w _ ho => Fx.grp (fun ho => write_ok b lv (List.replicate 256 slot0) 5 slot0 [97, 98] w (rep_ok 256) (rep_at (by decide)) (by decide) ho) ho) fun _ _ => ?_
  refine go (k := ?_)
  exact XE.ret1 (b, lv) [0] rfl rfl trivial rfl rfl rfl
theorem begins_ok (b : Nat) (lv : Value) (ds : List Slot) (s : Slot) (t : List UInt8) (w : World) (hk : Oks ds) (hs : ds[5]? = some s) (ht : s.read.take 3 = t) (ho : Owns w (devG b lv ds)) : Fx Try.prog 47 [ptr b, str t] w (Pure w (.bool true)) := by
  have hown : ∀ w', Kept [] w w' → Owns w' (devG b lv ds) := fun w' k => ho.of_kept k (fun _ _ h => by cases h)
  have hl : s.read.length = 64 := (hk s (List.mem_of_getElem? hs)).2
  refine Fx.of (L0 := []) Try.func47 rfl (by kernel_rfl) Try.ntmps47 rfl (Owns.nil w) ?_
  refine go (k := ?_)
  refine XL.q (.call rfl rfl fun _ w' hs' => read_ok b lv ds 5 s w' hk hs (hown w' hs'.kept)) rfl ?_
  refine go (k := ?_)
  refine XE.ret1 () [] rfl rfl trivial ?_ rfl rfl
  simp [ht]
theorem left_ok (v : Value) (l : List Int) (w : World) (hv : RowAt w v 1 l.length (ivs l)) (hl : l.length ≤ 1000000) (hw : ∀ a ∈ l, -9223372036854775808 ≤ a ∧ a ≤ 9223372036854775807) :
    Fx Try.prog 46 [v] w (Pure w (str ((torn (Fc l) 0 G5).take 3))) := by
  have hr : ∀ L : Heap, Rd w (ids []) L v 1 l.length (ivs l) := fun L => .old hv (fun _ _ _ => by simp [X.ids])
  refine Fx.of (L0 := []) Try.func46 rfl (by kernel_rfl) Try.ntmps46 rfl (Owns.nil w) ?_
  refine go (k := ?_)
  refine XL.call [] [] rfl rfl rfl rfl rfl (fun _ w _ _ => given_ok w) fun x _ => ?_
  obtain ⟨b, lv⟩ := x
  refine go (k := ?_)
  refine XL.call [] [0] rfl rfl rfl rfl rfl (fun _ w hs _ => dcopy_ok b lv gds w gds_ok (by rw [gds_len]; decide) (by rw [gds_len]; decide) (hs.own.grp (.head _))) fun x _ => ?_
  obtain ⟨b', lv'⟩ := x
  refine go (k := ?_)
  refine XL.nm ?_
  refine XL.call [0] [1] rfl rfl rfl rfl rfl (fun _ w1 hs ho => Fx.grp (fun ho => crash_ok b' lv' gds v l w1 gds_ok (by rw [gds_len]; decide) (fun w' hk' => hr [] w' (Owns.nil _) (hs.keptTo hk' (ids_of_mem (x := devE b' lv' gds) (.head _)))) hl hw ho) ho) fun _ _ => ?_
  obtain ⟨T, hT⟩ : ∃ T, T = torn (Fc l) 0 G5 := ⟨_, rfl⟩
  have hset : (settled (Fc l) gds)[5]? = some ⟨T, T, false⟩ := by
    rw [settled_at, gds_5]
    have : nF gds 5 = 0 := by decide +kernel
    rw [this, hT]; rfl
  have htl : T.length = 64 := by rw [hT]; exact torn_len G5_ok
  have hok := settled_ok (F := Fc l) gds_ok
  rw [← hT]
  obtain ⟨sd, hsd⟩ : ∃ sd, sd = settled (Fc l) gds := ⟨_, rfl⟩
  rw [← hsd] at hset hok ⊢
  clear hT hsd
  refine XL.nm ?_
  refine go (k := ?_)
  refine XL.q (.call (v := .tuple #[str T, iv 0]) rfl rfl fun _ w hs => read_ok b' lv' sd 5 _ w hok hset (hs.own.grp (.head _))) rfl ?_
  refine go (k := ?_)
  refine XL.q (.call rfl rfl fun _ w hs => begins_ok b lv gds G5 [97, 98, 0] w gds_ok gds_5 rfl (hs.own.grp (.tail _ (.head _)))) rfl ?_
  refine go (k := ?_)
  exact XE.ret1 () [] rfl rfl trivial rfl rfl rfl
theorem awake11_ok (w : World) : Fx Try.prog 13 [] w (Pure w (.bool true)) := by
  refine Fx.of (L0 := []) Try.func13 rfl (by kernel_rfl) Try.ntmps13 rfl (Owns.nil w) ?_
  refine go (k := ?_)
  refine XL.call [] [] rfl rfl rfl rfl rfl (fun _ w _ _ => given_ok w) fun x _ => ?_
  obtain ⟨b, lv⟩ := x
  refine go (k := ?_)
  refine XL.q (.call rfl rfl fun _ w hs => begins_ok b lv gds G5 [97, 98, 0] w gds_ok gds_5 rfl (hs.own.grp (.head _))) rfl ?_
  refine go (k := ?_)
  refine XL.make (.bslice rfl rfl rfl rfl rfl rfl) rfl fun _ _ hb => ?_
  obtain ⟨bs, rfl, rfl⟩ := hb
  have e1 : (torn (Fc [1]) 0 G5).take 3 = [97, 0, 0] := by decide +kernel
  have e2 : (torn (Fc []) 0 G5).take 3 = [0, 0, 0] := by decide +kernel
  refine go (k := ?_)
  refine XL.q (.call rfl rfl fun _ w hs => left_ok _ [1] w ((Rd.blk (.head _) rfl (Nat.le_refl _) rfl : Rd _ _ _ _ 1 _ (ivs [1])) w hs.own hs.kept) (by decide) (by simp)) rfl ?_
  rw [e1]
  refine go (k := ?_)
  refine XL.q (.call rfl rfl fun _ w hs => left_ok _ [] w ((Rd.nil : Rd _ _ [] _ 1 _ (ivs [])) w (Owns.nil _) hs.kept) (by decide) (by simp)) rfl ?_
  rw [e2]
  refine go (k := ?_)
  have e3 : (freshL gds 256).length = 1 := by decide +kernel
  refine XL.make (.call rfl rfl fun _ w hs => fresh_ok b lv gds w gds_ok (by rw [gds_len]; decide) (hs.own.grp (.tail _ (.head _)))) rfl fun v H hv => ?_
  obtain ⟨v', _, rfl, rfl⟩ := hv
  rw [gds_len]
  refine XL.slv (.head _) fun ao q m hv hq _ => ?_
  subst hv
  obtain rfl : q = 1 := by rw [ivs_len, e3] at hq; omega
  clear e1 e2 e3
  refine go (k := ?_)
  exact XE.ret1 () [] rfl rfl trivial rfl rfl rfl
end Go.X
