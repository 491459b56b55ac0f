/- The reference of package device (revertref11): Write. -/
import Derived.Test.YtckelpenodabdaaDevO
namespace Go.X
open Go Go.Proofs
theorem frcs_take : ∀ (l : List Fr) (i : Nat), frcs (l.take i) = (frcs l).take (i * 2)
  | [], i => by simp [frcs]
  | a :: l, 0 => by simp [frcs]
  | a :: l, i + 1 => by
    rw [List.take_succ_cons, show (i + 1) * 2 = i * 2 + 1 + 1 by omega]
    show frc a ++ frcs (l.take i) = (frc a ++ frcs l).take (i * 2 + 1 + 1)
    rw [frcs_take l i]; rfl
theorem frcs_drop : ∀ (l : List Fr) (i : Nat), frcs (l.drop i) = (frcs l).drop (i * 2)
  | [], i => by simp [frcs]
  | a :: l, 0 => by simp
  | a :: l, i + 1 => by
    rw [List.drop_succ_cons, show (i + 1) * 2 = i * 2 + 1 + 1 by omega]
    show frcs (l.drop i) = (frc a ++ frcs l).drop (i * 2 + 1 + 1)
    rw [frcs_drop l i]; rfl
theorem zeros_bytes (n : Nat) : zerosL (Value.int IntKind.u8 0).cells.toList n = bcells (zbytes n) := by
  induction n with
  | zero => rfl
  | succ n ih => rw [zerosL, ih, zbytes, zbytes, List.replicate_succ]; rfl
theorem Quiet.cutL0 {P : Program} [T : Tab P] {r : Option Nat} {w0 : World} {B : List Nat} {n : Nat} {e : Env} {ds : List Deferred} {L : Heap} {t ty el : TypeId} {x lo : Operand} {k : IntKind} {ao : Option Addr} {m c s by' : Nat} {z : Value} (hx : ev e x = some (.slice ao m c)) (hl : ev e lo = some (.int k ((0 : Nat) : Int)))
    (ht : T.und t = some (.slice el)) (hi' : T.inf el = some (s, by', z)) : Quiet P r w0 B n ds L (.slice t x (some lo) none none) ty e (.slice ao m c) :=
  .run (by simp) fun ρ d pos af g w hρ _ _ => by
    simp only [execOp, hρ x (by simp [Op.operands]) _ hx, hρ lo (by simp [Op.operands]) _ hl, Option.map, Instr.sliceAt, Sem.run_bind, run_und ht, Result.andThen, Instr.slice,
      Instr.sliceBounds, Sem.run_pure, Option.isSome]
    simp only [run_bound (Nat.zero_le m), Bool.false_eq_true, if_false, run_size hi', Nat.sub_zero, Nat.zero_mul]
    cases ao with
    | none => simp
    | some a => simp [Addr.add]
def rwr (rl : List Fr) (k : Nat) (s : List UInt8) : List Fr := rl.take (plc rl k) ++ [(k, padTo s)] ++ rl.drop (if isp rl k = true then plc rl k + 1 else plc rl k)
set_option maxHeartbeats 1000000 in
theorem rwrite_ok (bd : Nat) (fv lv : Value) (fs : List (List UInt8)) (rl : List Fr) (k : Nat) (s : List UInt8) (w : World) (hl : rl.length ≤ 100000) (hlt : k < fs.length) (hs : s.length ≤ 64) (ho : Owns w (rdG bd fv lv fs rl)) :
    Fx Try.prog 55 [ptr bd, iv k, str s] w (Ret w (rdG bd fv lv fs rl) (fun _ : Value => iv 0) (fun v => rdG bd fv v fs (rwr rl k s)) (fun _ => True)) := by
  refine Fx.of Try.func55 rfl (by kernel_rfl) Try.ntmps55 rfl ho ?_
  refine XC.rdv (.sl (m := fs.length) (.tail _ (.head _)) (by decide) (by simp)) fun ao m hva _ _ haa => ?_
  subst hva
  refine go (k := ?_)
  refine XL.q (.call (v := .tuple #[iv (plc rl k), .bool (isp rl k)]) rfl rfl fun _ w' hs => place_ok bd _ _ fs rl k w' hl hs.own) rfl ?_
  have hpl := plc_le rl k
  have hpi : isp rl k = true → plc rl k < rl.length := fun h => by
    obtain ⟨x, hx, _⟩ := isp_at h
    exact (List.getElem?_eq_some_iff.1 hx).1
  unfold rwr
  obtain ⟨p, hp⟩ : ∃ p, p = plc rl k := ⟨_, rfl⟩
  obtain ⟨i, hi⟩ : ∃ i, i = isp rl k := ⟨_, rfl⟩
  rw [← hp, ← hi] at hpi ⊢
  rw [← hp] at hpl
  clear hp hi
  by_cases hne : 0 < rl.length
  · refine XL.openSl (m := rl.length) (.tail _ (.tail _ (.head _))) (by decide) (frcs_len rl).symm hne (fun _ _ => .there (.there .here)) fun b1 cs cap hv hc hcl hct => ?_
    subst hv
    have hcut : ∀ j q, j + q ≤ rl.length → cut cs (0 + j * 2) (q * 2) = some (frcs ((rl.drop j).take q)) := by
      intro j q hjq
      rw [cut_some (by omega), frcs_take, frcs_drop, ← hct, frcs_len]
      congr 1
      rw [show 0 + j * 2 = j * 2 by omega, List.drop_take, List.take_take, Nat.min_eq_left (by omega)]
    have hr1 := hcut 0 p (by omega)
    rw [List.drop_zero] at hr1
    have hl1 : (frcs (rl.take p)).length = p * 2 := by rw [frcs_len, List.length_take]; omega
    refine go (k := ?_)
    refine XL.make (.app (news := frcs (rl.take p)) rfl rfl rfl rfl rfl rfl (by decide) (.blk (.tail _ (.tail _ (.head _))) hl1.symm (by omega) (by rw [hl1]; exact hr1)) (frcs_one _) (by omega) (by omega)) rfl fun v1 H hH => ?_
    subst hH
    refine go (k := ?_)
    rw [show (64 - (s.length : Int)) = ((64 - s.length : Nat) : Int) from by omega]
    refine XL.make (.mslice (len := 64 - s.length) (cap := 64 - s.length) rfl rfl rfl rfl rfl (Nat.le_refl _) (by omega) (by omega)) rfl fun v H hv => ?_
    obtain ⟨mb, rfl, rfl⟩ := hv
    rw [zeros_bytes]
    refine go (k := ?_)
    refine XL.q (.bytesStr (m := 64 - s.length) (l := zbytes (64 - s.length)) rfl rfl rfl rfl (.blk (.head _) (by rw [bcells_len, zbytes_len, Nat.mul_one]) (Nat.le_refl _) (by rw [cut_some (by omega), List.drop_zero, List.take_length]))) rfl ?_
    have hz : (zbytes (64 - s.length)).length = 64 - s.length := zbytes_len _
    refine go (k := ?_)
    refine XL.make (.bslice rfl rfl rfl rfl rfl rfl) rfl fun _ _ hb => ?_
    obtain ⟨bs, rfl, rfl⟩ := hb
    refine XL.app (m := 1) (news := frcs [(k, padTo s)]) (L' := fun v2 => _ :: _ :: .sl v2 54 2 (frcs (rl.take p) ++ frcs [(k, padTo s)]) :: _) rfl rfl rfl rfl rfl rfl (by decide) (.tail _ (.tail _ (.head _)))
      (.blk (.head _) rfl (Nat.le_refl _) rfl) rfl (by rw [hl1]; simp only [frcs_len, List.length_singleton]; omega) (by rw [hl1]; simp only [frcs_len, List.length_singleton]; omega) (fun v2 => .there (.there .here)) rfl fun v2 => ?_
    rw [← frcs_app]
    have hA : (frcs (rl.take p ++ [(k, padTo s)])).length = p * 2 + 2 := by rw [frcs_len, List.length_append, List.length_take, List.length_singleton]; omega
    cases i with
    | true =>
      have hp1 := hpi rfl
      rw [if_pos rfl]
      have hr2 := hcut (p + 1) (rl.length - (p + 1)) (by omega)
      rw [List.take_of_length_le (by simp)] at hr2
      have hl2 : (frcs (rl.drop (p + 1))).length = (rl.length - (p + 1)) * 2 := by rw [frcs_len, List.length_drop]
      refine go (k := ?_)
      refine XL.q (.cutX (l := p + 1) (h := rl.length) (q := cap) rfl (.inl ⟨_, _, rfl, rfl⟩) (.inr ⟨rfl, rfl, rfl⟩) (.inr ⟨rfl, rfl⟩) rfl rfl (by omega) hc (Nat.le_refl _)) rfl ?_
      refine XL.app (news := frcs (rl.drop (p + 1))) (L' := fun v' => _ :: _ :: .sl v' 54 2 (frcs (rl.take p ++ [(k, padTo s)]) ++ frcs (rl.drop (p + 1))) :: _)
        rfl rfl rfl rfl rfl rfl (by decide) (.tail _ (.tail _ (.head _))) (.cut (.tail _ (.tail _ (.tail _ (.tail _ (.tail _ (.head _)))))) hl2.symm (by omega) (by omega) (by rw [hl2]; exact hr2)) (frcs_one _) (by omega) (by omega) (fun _ => .there (.there .here)) rfl fun v' => ?_
      rw [← frcs_app]
      refine XL.slv (.tail _ (.tail _ (.head _))) fun ao' q' m' hv' _ _ => ?_
      subst hv'
      refine go (k := ?_)
      exact XE.ret1 (.slice ao' q' m') [3, 4, 2] rfl rfl trivial rfl rfl rfl
    | false =>
      rw [if_neg (by decide)]
      have hr2 := hcut p (rl.length - p) (by omega)
      rw [List.take_of_length_le (by simp)] at hr2
      have hl2 : (frcs (rl.drop p)).length = (rl.length - p) * 2 := by rw [frcs_len, List.length_drop]
      refine go (k := ?_)
      refine XL.q (.cutX (l := p) (h := rl.length) (q := cap) rfl (.inl ⟨_, _, rfl, rfl⟩) (.inr ⟨rfl, rfl, rfl⟩) (.inr ⟨rfl, rfl⟩) rfl rfl (by omega) hc (Nat.le_refl _)) rfl ?_
      refine XL.app (news := frcs (rl.drop p)) (L' := fun v' => _ :: _ :: .sl v' 54 2 (frcs (rl.take p ++ [(k, padTo s)]) ++ frcs (rl.drop p)) :: _)
        rfl rfl rfl rfl rfl rfl (by decide) (.tail _ (.tail _ (.head _))) (.cut (.tail _ (.tail _ (.tail _ (.tail _ (.tail _ (.head _)))))) hl2.symm (by omega) (by omega) (by rw [hl2]; exact hr2)) (frcs_one _) (by omega) (by omega) (fun _ => .there (.there .here)) rfl fun v' => ?_
      rw [← frcs_app]
      refine XL.slv (.tail _ (.tail _ (.head _))) fun ao' q' m' hv' _ _ => ?_
      subst hv'
      refine go (k := ?_)
      exact XE.ret1 (.slice ao' q' m') [3, 4, 2] rfl rfl trivial rfl rfl rfl
  · obtain rfl : rl = [] := List.eq_nil_of_length_eq_zero (by omega)
    obtain rfl : p = 0 := by simpa using hpl
    cases i with
    | true => exact absurd (hpi rfl) (by simp)
    | false =>
      refine XL.rdv (.sl (m := 0) (.tail _ (.tail _ (.head _))) (by decide) rfl) fun ap mp hvp _ _ hap => ?_
      subst hvp
      refine go (k := ?_)
      refine XL.make (.app (m := 0) (news := frcs []) rfl rfl rfl rfl rfl rfl (by decide) .empty rfl (by simp [frcs]) (by simp [frcs])) rfl fun v1 H hH => ?_
      subst hH
      refine go (k := ?_)
      rw [show (64 - (s.length : Int)) = ((64 - s.length : Nat) : Int) from by omega]
      refine XL.make (.mslice (len := 64 - s.length) (cap := 64 - s.length) rfl rfl rfl rfl rfl (Nat.le_refl _) (by omega) (by omega)) rfl fun v H hv => ?_
      obtain ⟨mb, rfl, rfl⟩ := hv
      rw [zeros_bytes]
      refine go (k := ?_)
      refine XL.q (.bytesStr (m := 64 - s.length) (l := zbytes (64 - s.length)) rfl rfl rfl rfl (.blk (.head _) (by rw [bcells_len, zbytes_len, Nat.mul_one]) (Nat.le_refl _) (by rw [cut_some (by omega), List.drop_zero, List.take_length]))) rfl ?_
      have hz : (zbytes (64 - s.length)).length = 64 - s.length := zbytes_len _
      refine go (k := ?_)
      refine XL.make (.bslice rfl rfl rfl rfl rfl rfl) rfl fun _ _ hb => ?_
      obtain ⟨bs, rfl, rfl⟩ := hb
      refine XL.app (m := 1) (news := frcs [(k, padTo s)]) (L' := fun v2 => _ :: _ :: .sl v2 54 2 (frcs [] ++ frcs [(k, padTo s)]) :: _) rfl rfl rfl rfl rfl rfl (by decide) (.tail _ (.tail _ (.head _)))
        (.blk (.head _) rfl (Nat.le_refl _) rfl) rfl (by simp [frcs, frc]) (by simp [frcs, frc]) (fun v2 => .there (.there .here)) rfl fun v2 => ?_
      rw [← frcs_app]
      refine go (k := ?_)
      refine XL.q (.cutL0 rfl rfl rfl rfl) rfl ?_
      refine XL.app (m := 0) (news := frcs []) (L' := fun v' => _ :: _ :: .sl v' 54 2 (frcs ([] ++ [(k, padTo s)]) ++ frcs []) :: _)
        rfl rfl rfl rfl rfl rfl (by decide) (.tail _ (.tail _ (.head _))) .empty rfl (by simp [frcs, frc]) (by simp [frcs, frc]) (fun _ => .there (.there .here)) rfl fun v' => ?_
      rw [← frcs_app]
      refine XL.slv (.tail _ (.tail _ (.head _))) fun ao' q' m' hv' _ _ => ?_
      subst hv'
      refine go (k := ?_)
      exact XE.ret1 (.slice ao' q' m') [3, 4, 2] rfl rfl trivial rfl rfl rfl
theorem rwrite_err (bd : Nat) (fv lv : Value) (fs : List (List UInt8)) (rl : List Fr) (k : Int) (s : List UInt8) (w : World) (hk : k < 0 ∨ (fs.length : Int) ≤ k) (ho : Owns w (rdG bd fv lv fs rl)) : Fx Try.prog 55 [ptr bd, iv k, str s] w (Pure w (iv 2)) := by
  have hb : w.heap[bd]? = some (.cells [fv, lv].toArray _ (0, 0)) := ho.ok _ (.head _)
  have hB : bd ∉ ids ([] : Heap) := by simp [X.ids]
  have hrow : RowAt w fv 1 fs.length (strs fs) := (ho.ok _ (.tail _ (.head _)) : SlOk w fv _ 1 _).rowAt (by decide) (by simp)
  have hr : ∀ L : Heap, Rd w (ids []) L fv 1 fs.length (strs fs) := fun L => .old hrow (fun _ _ _ => by simp [X.ids])
  clear ho
  refine Fx.of (L0 := []) Try.func55 rfl (by kernel_rfl) Try.ntmps55 rfl (Owns.nil w) ?_
  refine XC.rdv (hr _) fun ao m hva _ _ haa => ?_
  subst hva
  have c0 : [Value.slice ao fs.length m, lv][0 + 0]? = some (Value.slice ao fs.length m) := rfl
  by_cases h0 : k < 0
  · refine go (k := ?_)
    exact XE.ret1 () [] rfl rfl trivial rfl rfl rfl
  · have h1 : (fs.length : Int) ≤ k := by omega
    refine go (k := ?_)
    exact XE.ret1 () [] rfl rfl trivial rfl rfl rfl
theorem rwrite_long (bd : Nat) (fv lv : Value) (fs : List (List UInt8)) (rl : List Fr) (k : Nat) (s : List UInt8) (w : World) (hk : k < fs.length) (hs : 64 < s.length) (ho : Owns w (rdG bd fv lv fs rl)) : Fx Try.prog 55 [ptr bd, iv k, str s] w (Pure w (iv 3)) := by
  have hb : w.heap[bd]? = some (.cells [fv, lv].toArray _ (0, 0)) := ho.ok _ (.head _)
  have hB : bd ∉ ids ([] : Heap) := by simp [X.ids]
  have hrow : RowAt w fv 1 fs.length (strs fs) := (ho.ok _ (.tail _ (.head _)) : SlOk w fv _ 1 _).rowAt (by decide) (by simp)
  have hr : ∀ L : Heap, Rd w (ids []) L fv 1 fs.length (strs fs) := fun L => .old hrow (fun _ _ _ => by simp [X.ids])
  clear ho
  refine Fx.of (L0 := []) Try.func55 rfl (by kernel_rfl) Try.ntmps55 rfl (Owns.nil w) ?_
  refine XC.rdv (hr _) fun ao m hva _ _ haa => ?_
  subst hva
  have c0 : [Value.slice ao fs.length m, lv][0 + 0]? = some (Value.slice ao fs.length m) := rfl
  refine go (k := ?_)
  exact XE.ret1 () [] rfl rfl trivial rfl rfl rfl
end Go.X
