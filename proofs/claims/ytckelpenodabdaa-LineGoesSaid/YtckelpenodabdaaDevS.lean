/- The reference of package device (revertref11): Flush, New, Copy. -/
import Derived.Test.YtckelpenodabdaaDevR
namespace Go.X
open Go Go.Proofs
theorem rflush_ok (bd : Nat) (fv lv : Value) (fs : List (List UInt8)) (rl : List Fr) (w : World) (hrl : rl.length ≤ 100000) (hok : ROk fs rl) (ho : Owns w (rdG bd fv lv fs rl)) :
    Fx Try.prog 53 [ptr bd] w (Ret w (rdG bd fv lv fs rl) (fun _ : Unit => iv rl.length) (fun _ => rdG bd fv (.slice none 0 0) (rcrs [64] fs rl rl.length) []) (fun _ => True)) := by
  refine Fx.of Try.func53 rfl (by kernel_rfl) Try.ntmps53 rfl ho ?_
  refine XC.rdv (.sl (m := rl.length) (.tail _ (.tail _ (.head _))) (by decide) (frcs_len rl).symm) fun ap mp hva _ _ hap => ?_
  subst hva
  refine go (k := ?_)
  refine XL.make (.bslice rfl rfl rfl rfl rfl rfl) rfl fun _ _ hb => ?_
  obtain ⟨bs, rfl, rfl⟩ := hb
  refine go (k := ?_)
  refine XL.call [1, 2, 3] [0] rfl rfl rfl rfl rfl (fun _ w1 hs ho => rcrash_ok bd fv _ _ fs rl [64] w1 hrl hok (fun w' hk' => (Rd.blk (L := [.blk bs [iv 64] 3]) (w0 := w1) (B := ids (rdG bd fv (.slice ap rl.length mp) fs rl)) (.head _) rfl (Nat.le_refl _) rfl : Rd _ _ _ _ 1 1 (ivs [64])) w' ((Owns.left (L := [.blk bs [iv 64] 3]) (M := rdG bd fv (.slice ap rl.length mp) fs rl) hs.own).of_kept hk' (fun x hx h => Owns.apart (L := [.blk bs [iv 64] 3]) (M := rdG bd fv (.slice ap rl.length mp) fs rl) hs.own x hx h)) hk') (by decide) (fun a ha => by rw [List.mem_singleton.1 ha]; omega) ho) fun _ _ => ?_
  refine XL.nm ?_
  refine go (k := ?_)
  exact XE.ret1 () [0, 1, 2] rfl rfl trivial rfl rfl rfl
theorem XD.tail3 {P : Program} {r : Option Nat} {w0 : World} {B : List Nat} {n : Nat} {Q : Post} {e : Env} {ds : List Deferred} {L : Heap} {ops : Array Oper} {l : List Oper} {s s' s'' : Nat} {Φ Φ' Φ'' : Value → Heap → Prop} (hl : Nat.ble l.length ops.size = true) (hc : drawOk ops (ops.size - l.length) = true)
    (h : ∀ v H, Φ v H → ∀ v' H', Φ' v' H' → ∀ v'' H'', Φ'' v'' H'' → XL P r w0 B n ops l Q ((s'', v'') :: (s', v') :: (s, v) :: e) ds (H'' ++ (H' ++ (H ++ L)))) : XD P r w0 B n ops l Q e ds L [(s, Φ), (s', Φ'), (s'', Φ'')] none := by
  obtain ⟨h1, h2, h3, h4⟩ := drawOk_parts hc (Nat.sub_le _ _)
  exact .toR h1 h2 h3 fun v H hφ v' H' hφ' v'' H'' hφ'' => .tail (tail_range h4 (Nat.le_of_ble_eq_true hl)) (h v H hφ v' H' hφ' v'' H'' hφ'')
theorem hcutz : cut (zerosL (Value.int IntKind.u8 0).cells.toList 64) 0 (bcells (zbytes 64)).length = some (bcells (zbytes 64)) := by
  rw [zeros_bytes, cut_some (by omega), List.drop_zero, List.take_length]
set_option maxHeartbeats 1000000 in
theorem rnew_ok (n : Nat) (w : World) (hn : n ≤ 100000) :
    Fx Try.prog 21 [iv n] w (Ret w [] (fun x : Nat × Value => ptr x.1) (fun x => rdG x.1 x.2 (.slice none 0 0) (List.replicate n (zbytes 64)) []) (fun _ => True)) := by
  refine Fx.of (L0 := []) Try.func21 rfl (by kernel_rfl) Try.ntmps21 rfl (Owns.nil w) ?_
  refine go (k := ?_)
  refine XL.box rfl rfl rfl fun bd => ?_
  refine go (k := ?_)
  refine XC.addNil 9 1 ?_
  refine XC.loop (α := Nat × Value) (fun x => [(0, iv n), (3, ptr bd), (4, iv x.1)]) (fun x => [.blk bd [x.2, .slice none 0 0] 52, .sl x.2 9 1 (strs (List.replicate x.1 (zbytes 64)))]) (fun x => x.1 ≤ n) (fun x => n - x.1) (0, .slice none 0 0) [1, 0] (Nat.zero_le _) ⟨rfl, rfl, rfl, trivial⟩ rfl rfl ?_
  rintro ⟨i, fv⟩ hi
  simp only at hi ⊢
  by_cases hlt : i < n
  · refine XC.rdv (.sl (m := i) (.tail _ (.head _)) (by decide) (by simp)) fun ao m hva _ _ hao => ?_
    subst hva
    refine goD (k := ?_)
    refine XC.pk [1, 0] rfl rfl ?_
    refine XC.drawM (C0 := [.sl (.slice ao i m) 9 1 (strs (List.replicate i (zbytes 64)))]) (L := [.blk bd [.slice ao i m, .slice none 0 0] 52]) Tab.mix ?_
    refine go (k := ?_)
    refine XD.make (.mslice (len := 64) (cap := 64) rfl rfl rfl rfl rfl (Nat.le_refl _) (by decide) (by decide)) rfl rfl ?_
    refine XD.look (v := str (zbytes 64)) (.head _) rfl (fun u H hu => ?_) rfl ?_
    · obtain ⟨mb, rfl, rfl⟩ := hu
      exact .bytesStr (m := 64) (l := zbytes 64) rfl rfl rfl rfl (.blk (.head _) (by rw [bcells_len, zbytes_len]) (Nat.le_refl _) hcutz)
    refine go (k := ?_)
    refine XD.make (.bslice rfl rfl rfl rfl rfl rfl) rfl rfl ?_
    refine XD.mutLook (Φ := fun v' H => H = [.sl v' 9 1 (strs (List.replicate i (zbytes 64)) ++ strs [zbytes 64])]) (.head _) rfl (fun u H hu => ?_) rfl rfl ?_
    · obtain ⟨b1, rfl, rfl⟩ := hu
      exact .app rfl rfl rfl rfl rfl rfl (by decide) (.blk (.head _) rfl (Nat.le_refl _) rfl) rfl (by simp; omega) (by simp; omega)
    refine go (k := ?_)
    refine XD.tail3 rfl (by decide +kernel) fun v' H hH u H' hu u2 H2 hu2 => ?_
    subst hH
    obtain ⟨b1, rfl, rfl⟩ := hu
    obtain ⟨b2, rfl, rfl⟩ := hu2
    have hsn : strs (List.replicate i (zbytes 64)) ++ strs [zbytes 64] = strs (List.replicate (i + 1) (zbytes 64)) := by rw [List.replicate_succ', strs, strs, strs, List.map_append]
    rw [hsn]
    refine XL.slv (.tail _ (.tail _ (.head _))) fun ao' q' m' hv' _ _ => ?_
    subst hv'
    refine XL.stS rfl rfl rfl rfl rfl rfl (.tail _ (.tail _ (.tail _ (.head _)))) (SplL.one _ (show 0 < 2 from Nat.zero_lt_succ 1)) (.there (.there (.there .here))) ?_
    refine go (k := ?_)
    exact XE.mid (i + 1, .slice ao' q' m') [3, 2] ⟨show i + 1 ≤ n by omega, show n - (i + 1) < n - i by omega⟩ ⟨rfl, rfl, rfl, trivial⟩ rfl rfl
  · obtain rfl : i = n := by omega
    refine go (k := ?_)
    refine XE.addNil 54 2 ?_
    exact XE.ret1 (bd, fv) [1, 2, 0] rfl rfl trivial rfl rfl rfl
theorem strs_one (l : List (List UInt8)) : (strs l).all Value.oneCell' = true := by simp [strs, Value.oneCell']
set_option maxHeartbeats 1000000 in
theorem rcopy_ok (bd : Nat) (fv lv : Value) (fs : List (List UInt8)) (rl : List Fr) (w : World) (hfl : fs.length ≤ 100000) (hrl : rl.length ≤ 100000) (ho : Owns w (rdG bd fv lv fs rl)) :
    Fx Try.prog 23 [ptr bd] w (Ret w [] (fun x : Nat × Value × Value => ptr x.1) (fun x => rdG x.1 x.2.1 x.2.2 fs rl) (fun _ => True)) := by
  have hb : w.heap[bd]? = some (.cells [fv, lv].toArray _ (0, 0)) := ho.ok _ (.head _)
  have hB : bd ∉ ids ([] : Heap) := by simp [X.ids]
  have hrow : RowAt w fv 1 fs.length (strs fs) := (ho.ok _ (.tail _ (.head _)) : SlOk w fv _ 1 _).rowAt (by decide) (by simp)
  have hr : ∀ L : Heap, Rd w (ids []) L fv 1 fs.length (strs fs) := fun L => .old hrow (fun _ _ _ => by simp [X.ids])
  have hrow2 : RowAt w lv 2 rl.length (frcs rl) := (ho.ok _ (.tail _ (.tail _ (.head _))) : SlOk w lv _ 2 _).rowAt (by decide) (frcs_len rl).symm
  have hr2 : ∀ L : Heap, Rd w (ids []) L lv 2 rl.length (frcs rl) := fun L => .old hrow2 (fun _ _ _ => by simp [X.ids])
  clear ho
  refine Fx.of (L0 := []) Try.func23 rfl (by kernel_rfl) Try.ntmps23 rfl (Owns.nil w) ?_
  refine XC.rdv (hr _) fun ao m hva _ _ haa => ?_
  subst hva
  refine XC.rdv (hr2 _) fun ap mp hvp _ _ hap => ?_
  subst hvp
  have c0 : [Value.slice ao fs.length m, .slice ap rl.length mp][0 + 0]? = some (Value.slice ao fs.length m) := rfl
  have c1 : [Value.slice ao fs.length m, .slice ap rl.length mp][0 + 1]? = some (.slice ap rl.length mp) := rfl
  have hfn : (strs fs).length = fs.length := List.length_map _
  have hrn := frcs_len rl
  refine go (k := ?_)
  refine XL.box rfl rfl rfl fun b2 => ?_
  refine go (k := ?_)
  refine XD.make (.app (news := strs fs) rfl rfl rfl rfl rfl rfl (by decide) (hr _) (strs_one _) (by omega) (by omega)) rfl rfl ?_
  refine go (k := ?_)
  refine XD.tail1 rfl (by decide +kernel) fun v1 H hH => ?_
  subst hH
  refine XL.slv (.head _) fun aq q mq hv' _ _ => ?_
  subst hv'
  refine XL.stS rfl rfl rfl rfl rfl rfl (.tail _ (.head _)) (SplL.one _ (show 0 < 2 from Nat.zero_lt_succ 1)) (.there .here) ?_
  refine go (k := ?_)
  refine XD.make (.app (news := frcs rl) rfl rfl rfl rfl rfl rfl (by decide) (hr2 _) (frcs_one _) (by omega) (by omega)) rfl rfl ?_
  refine go (k := ?_)
  refine XD.tail1 rfl (by decide +kernel) fun v2 H hH => ?_
  subst hH
  refine XL.slv (.head _) fun ar q2 mr hv' _ _ => ?_
  subst hv'
  refine XL.stS rfl rfl rfl rfl rfl rfl (.tail _ (.tail _ (.head _))) (SplL.one _ (show 1 < 2 from Nat.lt_succ_self 1)) (.there (.there .here)) ?_
  refine go (k := ?_)
  exact XE.ret1 (b2, .slice aq q mq, .slice ar q2 mr) [2, 1, 0] rfl rfl trivial rfl rfl rfl
end Go.X
