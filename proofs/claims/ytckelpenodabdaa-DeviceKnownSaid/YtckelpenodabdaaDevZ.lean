/- DeviceKnown. -/
import Derived.Test.YtckelpenodabdaaDevH
import Derived.Test.YtckelpenodabdaaRep
namespace Go.X
open Go Go.Proofs Go.RowKit
theorem lefts (bs : Nat) (c : Int) (L : Heap) (n : Nat) (t : List UInt8) (hc : -9223372036854775808 ≤ c ∧ c ≤ 9223372036854775807) (ht : (torn (Fc [c]) 0 G5).take 3 = t) {w0 w : World} {B : List Nat} {e : Env} {ds : List Deferred} {a : Act} (hs : Sit w0 B n e ds (.blk bs [iv c] 3 :: L) a w) :
    Fx Try.prog 46 [.slice (some ⟨bs, 0, none⟩) 1 1] w (Pure w (str t)) := by
  subst ht
  exact left_ok _ [c] w ((Rd.blk (.head _) rfl (Nat.le_refl _) rfl : Rd _ _ _ _ 1 _ (ivs [c])) w hs.own hs.kept) (by simp) (by simpa using hc)
set_option maxHeartbeats 4000000 in
theorem deviceKnown_ok (w : World) : Fx Try.prog 11 [] w (Pure w (.bool true)) := by
  obtain ⟨yl, hyl, hll⟩ : ∃ y, Lib.repeatL [120] 65 = y ∧ y.length = 65 := ⟨_, rfl, by rw [Lib.repeatL_length]; rfl⟩
  have hrl : ∀ w, Fx Try.prog 44 [str [120], iv 65] w (Pure w (str yl)) := fun w => by
    have := repeat_ok [120] 65 w (by decide) (by decide)
    rw [hyl] at this; exact this
  have hf1 : freshL gds 256 = [5] := by decide +kernel
  have hn1 : nF gds 256 = 1 := by rw [← nF_freshL 256 (by rw [gds_len]; exact Nat.le_refl _), hf1]; rfl
  obtain ⟨S, hS⟩ : ∃ S, S = settled F64 gds := ⟨_, rfl⟩
  have hSok : Oks S := by rw [hS]; exact settled_ok gds_ok
  have hSl : S.length = 256 := by rw [hS, settled_len, gds_len]
  have hS2 : settled F64 S = S := settled_none (by rw [hS]; exact settled_nf)
  have hSf : freshL S 256 = [] := by rw [hS]; exact settled_fresh _ _ _
  have hSn : nF S 256 = 0 := by rw [← nF_freshL 256 (by rw [hSl]; exact Nat.le_refl _), hSf]; rfl
  obtain ⟨s5, hs5, ht5⟩ : ∃ s, S[5]? = some s ∧ s.read.take 3 = [97, 98, 0] := by
    refine ⟨⟨torn F64 0 G5, torn F64 0 G5, false⟩, ?_, by decide +kernel⟩
    have : nF gds 5 = 0 := by decide +kernel
    rw [hS, settled_at, gds_5, this]; rfl
  have hone : (bcells (zbytes 64)) = zerosL [.int .u8 0] 64 := by kernel_rfl
  refine Fx.of (L0 := []) Try.func11 rfl (by kernel_rfl) Try.ntmps11 rfl (Owns.nil w) ?_
  refine go (k := ?_)
  refine XL.call [] [] rfl rfl rfl rfl rfl (fun _ w _ _ => given_ok w) fun x _ => ?_
  obtain ⟨b, lv⟩ := x
  refine go (k := ?_)
  refine XL.q (.call rfl rfl fun _ w hs => firm_ok b lv gds 5 G5 w gds_ok gds_5 (hs.own.grp (.head _))) rfl ?_
  refine go (k := ?_)
  refine XL.make (.mslice (len := 64) (cap := 64) rfl rfl rfl rfl rfl (Nat.le_refl _) (by decide) (by decide)) rfl fun _ _ hv => ?_
  obtain ⟨bz, rfl, rfl⟩ := hv
  refine go (k := ?_)
  refine XL.q (.bytesStr (l := zbytes 64) (m := 64) rfl rfl rfl rfl (.blk (.head _) (by rw [bcells_len, zbytes_len]) (Nat.le_refl _) (by rw [hone]; kernel_rfl))) rfl ?_
  refine go (k := ?_)
  refine XL.pk (M := [devE b lv gds]) [1] (by decide) rfl ?_
  refine XL.make (.bslice rfl rfl rfl rfl rfl rfl) rfl fun _ _ hb => ?_
  obtain ⟨bs, rfl, rfl⟩ := hb
  refine go (k := ?_)
  refine XL.q (.call rfl rfl fun _ w hs => lefts bs (66) _ _ [0, 0, 0] (by decide) (by decide +kernel) hs) rfl ?_
  refine XL.pk (M := [devE b lv gds]) [1] (by decide) rfl ?_
  refine go (k := ?_)
  refine XL.make (.bslice rfl rfl rfl rfl rfl rfl) rfl fun _ _ hb => ?_
  obtain ⟨bs, rfl, rfl⟩ := hb
  refine go (k := ?_)
  refine XL.q (.call rfl rfl fun _ w hs => lefts bs (-1) _ _ [97, 98, 0] (by decide) (by decide +kernel) hs) rfl ?_
  refine XL.pk (M := [devE b lv gds]) [1] (by decide) rfl ?_
  refine go (k := ?_)
  refine XL.make (.bslice rfl rfl rfl rfl rfl rfl) rfl fun _ _ hb => ?_
  obtain ⟨bs, rfl, rfl⟩ := hb
  refine go (k := ?_)
  refine XL.q (.call rfl rfl fun _ w hs => lefts bs (64) _ _ [97, 98, 0] (by decide) (by decide +kernel) hs) rfl ?_
  refine XL.pk (M := [devE b lv gds]) [1] (by decide) rfl ?_
  refine go (k := ?_)
  refine XL.make (.bslice rfl rfl rfl rfl rfl rfl) rfl fun _ _ hb => ?_
  obtain ⟨bs, rfl, rfl⟩ := hb
  refine go (k := ?_)
  refine XL.q (.call rfl rfl fun _ w hs => lefts bs (65) _ _ [97, 98, 0] (by decide) (by decide +kernel) hs) rfl ?_
  refine XL.pk (M := [devE b lv gds]) [1] (by decide) rfl ?_
  refine go (k := ?_)
  have fr : ∀ w (ds : List Slot), Oks ds → ds.length = 256 → Owns w (devG b lv ds) → Fx Try.prog 15 [ptr b] w (Ret w [] (fun v : Value => v) (fun v => [.sl v 3 1 (ivs (freshL ds 256))]) (fun _ => True)) := fun w ds h1 h2 ho => by
    have := fresh_ok b lv ds w h1 (by omega) ho
    rw [h2] at this; exact this
  have fl : ∀ w (ds : List Slot), Oks ds → ds.length = 256 → Owns w (devG b lv ds) → Fx Try.prog 24 [ptr b] w (Ret w (devG b lv ds) (fun _ : Unit => iv (nF ds 256)) (fun _ => devG b lv (settled F64 ds)) (fun _ => True)) := fun w ds h1 h2 ho => by
    have := flush_ok b lv ds w h1 (by omega) ho
    rw [h2] at this; exact this
  have bl : ∀ w (ds : List Slot), Oks ds → ds.length = 256 → Owns w (devG b lv ds) → Fx Try.prog 20 [ptr b] w (Pure w (iv 256)) := fun w ds h1 h2 ho => by
    have := blocks_ok b lv ds w h1 ho
    rw [h2] at this; exact this
  refine XL.make (.call rfl rfl fun _ w hs => fr w gds gds_ok gds_len (hs.own.grp (.head _))) rfl fun v H hv => ?_
  obtain ⟨v', _, rfl, rfl⟩ := hv
  rw [hf1]
  refine XL.slv (.head _) fun ao q m hv hq _ => ?_
  subst hv
  obtain rfl : q = 1 := by simp at hq; omega
  refine go (k := ?_)
  refine XL.pk (M := [devE b lv gds]) [1] (by decide) rfl ?_
  refine XL.make (.call rfl rfl fun _ w hs => fr w gds gds_ok gds_len (hs.own.grp (.head _))) rfl fun v H hv => ?_
  obtain ⟨v', _, rfl, rfl⟩ := hv
  rw [hf1]
  refine XL.rdv (m := 1) (k := 1) (xs := ivs [5]) (.sl (.head _) (by decide) rfl) fun ao m hv _ _ hao => ?_
  subst hv
  obtain ⟨b1, o1, rfl⟩ : ∃ b off, ao = some ⟨b, off, none⟩ := hao.resolve_left (by omega)
  refine go (k := ?_)
  refine XL.q (.ldRd (j := 0 * 1) (k := 1) (m := 1) (xs := ivs [5]) rfl rfl rfl (.sl (.head _) (by decide) rfl) (by decide) rfl) rfl ?_
  refine XL.pk (M := [devE b lv gds]) [1] (by decide) rfl ?_
  refine go (k := ?_)
  refine XL.q (.call rfl rfl fun _ w hs => bl w gds gds_ok gds_len (hs.own.grp (.head _))) rfl ?_
  refine go (k := ?_)
  refine XL.call [0] [] rfl rfl rfl rfl rfl (fun _ w _ ho => Fx.grp (fun ho => fl w gds gds_ok gds_len ho) ho) fun _ _ => ?_
  rw [hn1, ← hS]
  refine XL.nm (M := [devE b lv S]) ?_ rfl
  refine go (k := ?_)
  refine XL.call [0] [] rfl rfl rfl rfl rfl (fun _ w _ ho => Fx.grp (fun ho => fl w S hSok hSl ho) ho) fun _ _ => ?_
  rw [hSn, hS2]
  refine XL.nm (M := [devE b lv S]) ?_ rfl
  refine go (k := ?_)
  refine XL.make (.call rfl rfl fun _ w hs => fr w S hSok hSl (hs.own.grp (.head _))) rfl fun v H hv => ?_
  obtain ⟨v', _, rfl, rfl⟩ := hv
  rw [hSf]
  refine XL.slv (.head _) fun ao q m hv hq _ => ?_
  subst hv
  obtain rfl : q = 0 := by simp at hq; omega
  refine go (k := ?_)
  refine XL.pk (M := [devE b lv S]) [1] (by decide) rfl ?_
  refine XL.q (.call rfl rfl fun _ w hs => write_err (ptr b) 256 2 [97] w (by decide) fun w' hk => dat_err b lv S 256 2 w' hSok (by rw [hSl]; rfl) ((hs.own.grp (.head _)).of_kept hk (fun _ _ h => by cases h))) rfl ?_
  refine go (k := ?_)
  refine XL.q (.call rfl rfl fun _ w hs => write_err (ptr b) (-1) 2 [97] w (by decide) fun w' hk => dat_err b lv S (-1) 2 w' hSok (by rw [hSl]; rfl) ((hs.own.grp (.head _)).of_kept hk (fun _ _ h => by cases h))) rfl ?_
  refine go (k := ?_)
  refine XL.q (.call rfl rfl fun _ w _ => hrl w) rfl ?_
  refine go (k := ?_)
  refine XL.q (.call rfl rfl fun _ w hs => write_long b lv S 5 yl w hSok (by omega) (by omega) (hs.own.grp (.head _))) rfl ?_
  refine go (k := ?_)
  refine XL.q (.call rfl rfl fun _ w hs => begins_ok b lv S s5 [97, 98, 0] w hSok hs5 ht5 (hs.own.grp (.head _))) rfl ?_
  refine go (k := ?_)
  refine XL.q (.call rfl rfl fun _ w _ => dnew_none 255 w (by decide)) rfl ?_
  refine go (k := ?_)
  refine XL.q (.call rfl rfl fun _ w _ => dnew_none 2049 w (by decide)) rfl ?_
  refine go (k := ?_)
  refine XL.call [] [0] rfl rfl rfl rfl rfl (fun _ w _ _ => dnew_ok 2048 w (by decide) (by decide)) fun x _ => ?_
  obtain ⟨b', lv'⟩ := x
  refine XL.pk (M := [devE b lv S]) [1] (by decide) rfl ?_
  refine go (k := ?_)
  refine XL.q (.call rfl rfl fun _ w hs => read_err (ptr b) 256 2 w (by decide) fun w' hk => dat_err b lv S 256 2 w' hSok (by rw [hSl]; rfl) ((hs.own.grp (.head _)).of_kept hk (fun _ _ h => by cases h))) rfl ?_
  refine go (k := ?_)
  refine XL.box (zs := [.slice none 0 0]) rfl rfl rfl fun z => ?_
  refine go (k := ?_)
  refine XL.q (.call rfl rfl fun _ w _ => crash_nil _ rfl w) rfl ?_
  refine go (k := ?_)
  refine XL.make (.bslice rfl rfl rfl rfl rfl rfl) rfl fun _ _ hb => ?_
  obtain ⟨bs, rfl, rfl⟩ := hb
  refine XL.addNil 91 129 ?_
  refine XL.pk (M := [.blk bs [iv 1] 3, devB z (.slice none 0 0), devS (.slice none 0 0) []]) [1, 2, 0] (by decide) rfl ?_
  refine go (k := ?_)
  refine XL.call [1, 2] [0] rfl rfl rfl rfl rfl (fun _ w hs ho => crash_ok z (.slice none 0 0) [] _ [1] w (fun s hs => by cases hs) (by decide) (fun w' hk' => by
    have hb : w.heap[bs]? = some (.cells [iv 1].toArray _ (0, 0)) := hs.own.ok _ (.head _)
    have hb' : w'.heap[bs]? = some (.cells [iv 1].toArray _ (0, 0)) := (hk'.same bs (Array.getElem?_eq_some_iff.1 hb).1 (fun h => (Owns.apart (L := [.blk bs [iv 1] _]) hs.own) bs (by simp [X.ids, Ent.ids]) h)).trans hb
    exact ⟨_, _, rfl, rfl, Nat.le_refl _, .inr ⟨bs, 0, [iv 1], _, _, rfl, hb', rfl⟩⟩) (by decide) (by simp) ho) fun _ _ => ?_
  refine XL.pk (M := [devB z (.slice none 0 0)]) [0] (by decide) rfl ?_
  refine go (k := ?_)
  refine XL.q (.call rfl rfl fun _ w hs => read_err (ptr z) 0 1 w (by decide) fun w' hk => dat_zero z none 0 0 _ _ w' ((hk.same z (Array.getElem?_eq_some_iff.1 (hs.own.ok _ (.head _))).1 (by simp)).trans (hs.own.ok _ (.head _)))) rfl ?_
  refine go (k := ?_)
  refine XL.q (.call rfl rfl fun _ w _ => firm_err (.pointer none) 0 1 w (by decide) fun w' _ => dat_nil 0 w') rfl ?_
  refine go (k := ?_)
  refine XL.q (.call rfl rfl fun _ w _ => write_err (.pointer none) 0 1 [97] w (by decide) fun w' _ => dat_nil 0 w') rfl ?_
  refine go (k := ?_)
  refine XL.q (.call rfl rfl fun _ w _ => flush_nil w) rfl ?_
  refine go (k := ?_)
  refine XL.q (.call rfl rfl fun _ w hs => blocks_at z none 0 0 _ _ w (hs.own.ok _ (.head _))) rfl ?_
  refine go (k := ?_)
  refine XL.q (.call rfl rfl fun _ w _ => fresh_none (.pointer none) w fun w' _ => blocks_nil w') rfl ?_
  refine go (k := ?_)
  refine XL.q (.call rfl rfl fun _ w _ => dcopy_none (.pointer none) w fun w' _ => blocks_nil w') rfl ?_
  refine go (k := ?_)
  refine XL.q (.call rfl rfl fun _ w hs => dcopy_none (ptr z) w fun w' hk => blocks_at z none 0 0 _ _ w' ((hk.same z (Array.getElem?_eq_some_iff.1 (hs.own.ok _ (.head _))).1 (by simp)).trans (hs.own.ok _ (.head _)))) rfl ?_
  refine go (k := ?_)
  refine XL.q (.call rfl rfl fun _ w _ => awake11_ok w) rfl ?_
  refine go (k := ?_)
  exact XE.ret1 () [] rfl rfl trivial rfl rfl rfl
end Go.X
