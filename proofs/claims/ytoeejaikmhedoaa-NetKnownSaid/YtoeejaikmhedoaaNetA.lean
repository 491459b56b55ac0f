/- slices.Insert and slices.Delete at ways. -/
import Derived.Test.YtoeejaikmhedoaaNetP
import Derived.Test.YtoeejaikmhedoaaWalk
namespace Go.X
open Go Go.Proofs
theorem cs_split {xs cs : List Value} (h : cs.take xs.length = xs) : ∃ rest, cs = xs ++ rest := ⟨cs.drop xs.length, by conv => lhs; rw [← List.take_append_drop xs.length cs, h]⟩
theorem Quiet.cutL0 {P : Program} [T : Tab P] {r : Option Nat} {w0 : World} {B : List Nat} {n : Nat} {e : Env} {ds : List Deferred} {L : Heap} {t ty el : TypeId} {x lo : Operand} {k : IntKind} {ao : Option Addr} {m c s by' : Nat} {z : Value} (hx : ev e x = some (.slice ao m c)) (hl : ev e lo = some (.int k ((0 : Nat) : Int)))
    (ht : T.und t = some (.slice el)) (hi' : T.inf el = some (s, by', z)) : Quiet P r w0 B n ds L (.slice t x (some lo) none none) ty e (.slice ao m c) :=
  .run (by simp) fun ρ d pos af g w hρ _ _ => by
    simp only [execOp, hρ x (by simp [Op.operands]) _ hx, hρ lo (by simp [Op.operands]) _ hl, Option.map, Instr.sliceAt, Sem.run_bind, run_und ht, Result.andThen, Instr.slice,
      Instr.sliceBounds, Sem.run_pure, Option.isSome]
    simp only [run_bound (Nat.zero_le m), Bool.false_eq_true, if_false, run_size hi', Nat.sub_zero, Nat.zero_mul]
    cases ao with
    | none => simp
    | some a => simp [Addr.add]
set_option maxHeartbeats 2000000 in
theorem insert_ok (v : Value) (bs k : Nat) (xs : List Tx) (s : Tx) (w : World) (hk : k ≤ xs.length) (hl : xs.length ≤ 1000) (ho : Owns w [.sl v 9 1 (strs xs), .blk bs [str s] 9]) :
    Fx Try.prog 42 [v, iv k, .slice (some ⟨bs, 0, none⟩) 1 1] w (Ret w [.sl v 9 1 (strs xs), .blk bs [str s] 9] (fun v' : Value => v') (fun v' => [.sl v' 9 1 (strs (xs.take k ++ s :: xs.drop k))]) (fun _ => True)) := by
  have hxl : (strs xs).length = xs.length := strs_len xs
  refine Fx.of Try.func42 rfl (by kernel_rfl) Try.ntmps42 rfl ho ?_
  by_cases hke : k = xs.length
  · subst hke
    rw [List.take_length, List.drop_length]
    have hend : ∀ (e : Env) (L' : Heap) (v' : Value), XE w (ids [.sl v 9 1 (strs xs), .blk bs [str s] 9]) 95 .ret (bodyPostM (FW none) 0 Try.prog Try.f42 (Ret w [.sl v 9 1 (strs xs), .blk bs [str s] 9] (fun v' : Value => v') (fun v' => [.sl v' 9 1 (strs (xs ++ [s]))]) (fun _ => True))) ((6, v') :: e) [] (.sl v' 9 1 (strs (xs ++ [s])) :: L') := fun e L' v' =>
      XE.ret1 v' [0] rfl rfl trivial rfl rfl rfl
    by_cases hz : xs.length = 0
    · obtain rfl : xs = [] := List.eq_nil_of_length_eq_zero hz
      refine XC.rdv (.sl (m := 0) (.head _) (by decide) (by simp)) fun ao m hv _ hlm hao => ?_
      subst hv
      refine go (k := ?_)
      refine XL.q (.cutL0 rfl rfl rfl rfl) rfl ?_
      refine go (k := ?_)
      refine XL.app (m := 1) (news := [str s]) (L' := fun v'' => [.sl v'' 9 1 (strs [] ++ [str s]), .blk bs [str s] 9]) rfl rfl rfl rfl rfl rfl (by decide) (.head _)
        (.blk (.tail _ (.head _)) rfl (Nat.le_refl _) rfl) rfl (by simp) (by simp) (fun v'' => .here) rfl fun v'' => ?_
      refine go (k := ?_)
      exact hend _ _ v''
    · refine XC.rdv (.sl (m := xs.length) (.head _) (by decide) (by simp)) fun ao m hv _ hlm hao => ?_
      subst hv
      obtain ⟨b, o, rfl⟩ : ∃ b off, ao = some ⟨b, off, none⟩ := hao.resolve_left (by omega)
      refine go (k := ?_)
      refine XL.q (.cutX (l := xs.length) (h := xs.length) (q := m) rfl (.inl ⟨_, _, rfl, rfl⟩) (.inr ⟨rfl, rfl, rfl⟩) (.inr ⟨rfl, rfl⟩) rfl rfl (Nat.le_refl _) hlm (Nat.le_refl _)) rfl ?_
      refine go (k := ?_)
      refine XL.app (m := 1) (news := [str s]) (L' := fun v'' => [.sl v'' 9 1 (strs xs ++ [str s]), .blk bs [str s] 9]) rfl rfl rfl rfl rfl rfl (by decide) (.head _)
        (.blk (.tail _ (.head _)) rfl (Nat.le_refl _) rfl) rfl (by simp; omega) (by simp; omega) (fun v'' => .here) rfl fun v'' => ?_
      rw [show strs xs ++ [str s] = strs (xs ++ [s]) from (strs_app xs [s]).symm]
      refine go (k := ?_)
      exact hend _ _ v''
  · have hkl : k < xs.length := by omega
    refine XC.openSl (m := xs.length) (.head _) (by decide) (by simp) (by omega) (fun _ _ => .here) fun b cs cap hv hc hcl hct => ?_
    subst hv
    obtain ⟨rest, rfl⟩ := cs_split hct
    refine XC.sit (p := b ≠ bs) (fun a w hs => ?_) fun hne => ?_
    · have := hs.own.nd
      simp only [X.ids, Ent.ids, List.append_nil, List.singleton_append, List.nodup_cons, List.mem_singleton] at this
      exact this.1
    have hA : (strs (xs.take k)).length = k := by rw [strs_len, List.length_take]; omega
    have hD : (strs (xs.drop k)).length = xs.length - k := by rw [strs_len, List.length_drop]
    have hsp : strs xs = strs (xs.take k) ++ strs (xs.drop k) := by rw [← strs_app, List.take_append_drop]
    have hfin : strs (xs.take k) ++ ([str s] ++ strs (xs.drop k)) = strs (xs.take k ++ s :: xs.drop k) := by rw [strs_app]; rfl
    have hcutA : X.cut (strs xs ++ rest) 0 (strs (xs.take k)).length = some (strs (xs.take k)) := by
      rw [cut_some (by rw [List.length_append]; omega), List.drop_zero, hsp, List.append_assoc, List.take_left]
    have hcutD : X.cut (strs xs ++ rest) k (strs (xs.drop k)).length = some (strs (xs.drop k)) := by
      rw [cut_some (by rw [List.length_append, hxl]; omega), hsp, List.append_assoc]
      have e := List.drop_left (l₁ := strs (xs.take k)) (l₂ := strs (xs.drop k) ++ rest)
      rw [hA] at e
      rw [e, List.take_left]
    have hcl2 : cap ≤ xs.length + rest.length := by rw [List.length_append, hxl] at hcl; omega
    refine go (k := ?_)
    refine XL.q (.cutX (l := k) (h := xs.length) (q := cap) rfl (.inl ⟨_, _, rfl, rfl⟩) (.inr ⟨rfl, rfl, rfl⟩) (.inr ⟨rfl, rfl⟩) rfl rfl (by omega) hc (Nat.le_refl _)) rfl ?_
    refine go (k := ?_)
    refine XL.q (.capL rfl rfl) rfl ?_
    by_cases hroom : cap < xs.length + 1
    · refine go (k := ?_)
      rw [show ((xs.length : Int) + ((1 : Nat) : Int) - (k : Int)) = ((xs.length + 1 - k : Nat) : Int) from by omega]
      have hrd : Rd w (ids [.sl (.slice (some ⟨b, 0, none⟩) xs.length cap) 9 1 (strs xs), .blk bs [str s] 9]) [.blk b (strs xs ++ rest) 9, .blk bs [str s] 9] (.slice (some ⟨b, 0, none⟩) k cap) 1 k (strs (xs.take k)) := fun w' ho' _ =>
        ⟨_, cap, rfl, by rw [hA, Nat.mul_one], by omega, .inr ⟨b, 0, _, _, _, rfl, ho'.ok _ (.head _), hcutA⟩⟩
      refine XL.make (.growZ (l := k) (c := cap) (m := xs.length + 1 - k) (xs := strs (xs.take k)) rfl rfl rfl rfl rfl (by decide) hrd (by omega) (by omega) (by omega) (by omega)) rfl fun v' H hH => ?_
      obtain ⟨b2, cap2, rfl, hc2, hc3, rfl⟩ := hH
      rw [show k + (xs.length + 1 - k) = xs.length + 1 by omega] at hc2 ⊢
      obtain ⟨Z, hZ⟩ : ∃ Z : List Value, Z = zerosL (Value.string ⟨⟨[]⟩⟩).cells.toList (xs.length + 1 - k) ++ zerosL (Value.string ⟨⟨[]⟩⟩).cells.toList (cap2 - (xs.length + 1)) := ⟨_, rfl⟩
      have hZl : Z.length = cap2 - k := by rw [hZ, List.length_append, zerosL_length, zerosL_length]; simp [Value.cells]; omega
      refine XL.nm (M := [.blk b2 (strs (xs.take k) ++ Z) 9, .blk b (strs xs ++ rest) 9, .blk bs [str s] 9]) ?_ (by rw [hZ, ← List.append_assoc]; rfl)
      clear hZ
      have sp1 : SplL (strs (xs.take k) ++ Z) (0 + k * 1) [str s] (strs (xs.take k) ++ ([str s] ++ Z.drop 1)) := by
        have h := SplL.app (A := strs (xs.take k)) (Z := Z) (news := [str s]) (by simp; omega)
        rw [hA] at h
        rw [show 0 + k * 1 = k by omega]; exact h
      have sp2 : SplL (strs (xs.take k) ++ ([str s] ++ Z.drop 1)) (0 + (k + 1) * 1) (strs (xs.drop k)) ((strs (xs.take k) ++ [str s]) ++ (strs (xs.drop k) ++ (Z.drop 1).drop (strs (xs.drop k)).length)) := by
        have h := SplL.app (A := strs (xs.take k) ++ [str s]) (Z := Z.drop 1) (news := strs (xs.drop k)) (by rw [List.length_drop]; omega)
        rw [List.length_append, hA, List.length_singleton] at h
        rw [show 0 + (k + 1) * 1 = k + 1 by omega, ← List.append_assoc]; exact h
      refine go (k := ?_)
      refine XL.q (.cutLl (l := k) rfl rfl rfl rfl (by omega) (by omega)) rfl ?_
      refine go (k := ?_)
      refine XL.copy (m := 1) (news := [str s]) rfl rfl rfl rfl (.head _) (fun w ho hk => ((Rd.blk (.tail _ (.tail _ (.head _))) rfl (Nat.le_refl _) rfl : Rd _ _ _ (.slice (some ⟨bs, 0, none⟩) 1 1) 1 1 [str s]) w ho hk).src (Tab.hund _ _ rfl) rfl) (by omega) sp1 .here rfl ?_
      refine go (k := ?_)
      rw [show ((k : Int) + ((1 : Nat) : Int)) = ((k + 1 : Nat) : Int) from rfl]
      refine XD.q (.cutLl (l := k + 1) rfl rfl rfl rfl (by omega) (by omega)) rfl ?_
      refine go (k := ?_)
      refine XD.q (.cutLl (l := k) rfl rfl rfl rfl (by omega) (by omega)) rfl ?_
      refine go (k := ?_)
      refine XL.copyS (news := strs (xs.drop k)) rfl rfl rfl rfl (.head _) (.tail _ (.head _)) (by rw [show 0 + k * 1 = k by omega]; exact hcutD) (by rw [hD]; omega) (by omega) (strs_one _) sp2 .here rfl ?_
      refine go (k := ?_)
      have hlen : (strs (xs.take k ++ s :: xs.drop k)).length = xs.length + 1 := by rw [← hfin, List.length_append, List.length_append, hA, hD, List.length_singleton]; omega
      refine XE.shutSl (m := xs.length + 1) (cap := cap2) (k := 1) (xs := strs (xs.take k ++ s :: xs.drop k)) (b := b2) (.head _) ?_ ?_ ?_ ?_ .here ?_
      · rw [hlen]; omega
      · exact hc2
      · simp only [List.length_append, List.length_drop, hA, hD, hZl, List.length_singleton]; omega
      · rw [hlen, ← List.append_assoc, ← hfin, ← List.append_assoc, List.take_left' (by rw [List.length_append, List.length_append, hA, hD, List.length_singleton]; omega)]
      exact XE.ret1 _ [0] rfl rfl trivial rfl rfl rfl
    · refine go (k := ?_)
      rw [show ((k : Int) + ((1 : Nat) : Int)) = ((k + 1 : Nat) : Int) from rfl]
      refine XL.q (.cutLl (l := k + 1) rfl rfl rfl rfl (by omega) (by omega)) rfl ?_
      refine go (k := ?_)
      refine XL.q (.apart (tS := 22) (tR := 4) rfl rfl rfl Try.func50 (by kernel_rfl) (by kernel_rfl) (by kernel_rfl) (by kernel_rfl) rfl rfl (.tail _ (.head _)) (.head _) (fun e => hne e.symm) (by rw [List.length_append]; omega)) rfl ?_
      refine go (k := ?_)
      rw [show ((k : Int) + ((1 : Nat) : Int)) = ((k + 1 : Nat) : Int) from rfl]
      refine XD.q (.cutLl (l := k + 1) rfl rfl rfl rfl (by omega) (by omega)) rfl ?_
      refine go (k := ?_)
      refine XD.q (.cutLl (l := k) rfl rfl rfl rfl (by omega) (by omega)) rfl ?_
      refine go (k := ?_)
      obtain ⟨Y, hY⟩ : ∃ Y : List Value, Y = strs (xs.drop k) ++ rest := ⟨_, rfl⟩
      have hYl : Y.length = xs.length - k + rest.length := by rw [hY, List.length_append, hD]
      have hcs : strs xs ++ rest = strs (xs.take k) ++ Y := by rw [hY, hsp, List.append_assoc]
      have sp1 : SplL (strs xs ++ rest) (0 + (k + 1) * 1) (strs (xs.drop k)) ((strs (xs.take k) ++ Y.take 1) ++ (strs (xs.drop k) ++ (Y.drop 1).drop (strs (xs.drop k)).length)) := by
        have h := SplL.app (A := strs (xs.take k) ++ Y.take 1) (Z := Y.drop 1) (news := strs (xs.drop k)) (by rw [List.length_drop]; omega)
        rw [List.length_append, hA, List.length_take, Nat.min_eq_left (by omega)] at h
        rw [show 0 + (k + 1) * 1 = k + 1 by omega, hcs, ← List.take_append_drop 1 Y, ← List.append_assoc]
        rw [List.take_append_drop]; exact h
      have sp2 : SplL ((strs (xs.take k) ++ Y.take 1) ++ (strs (xs.drop k) ++ (Y.drop 1).drop (strs (xs.drop k)).length)) (0 + k * 1) [str s] (strs (xs.take k) ++ ([str s] ++ (strs (xs.drop k) ++ (Y.drop 1).drop (strs (xs.drop k)).length))) := by
        have h := SplL.app (A := strs (xs.take k)) (Z := Y.take 1 ++ (strs (xs.drop k) ++ (Y.drop 1).drop (strs (xs.drop k)).length)) (news := [str s]) (by rw [List.length_append, List.length_take, List.length_singleton]; omega)
        generalize strs (xs.drop k) ++ (Y.drop 1).drop (strs (xs.drop k)).length = W at h ⊢
        rw [hA, List.length_singleton, List.drop_left' (by rw [List.length_take]; omega), ← List.append_assoc] at h
        rw [show 0 + k * 1 = k by omega]; exact h
      refine XL.copyS (news := strs (xs.drop k)) rfl rfl rfl rfl (.head _) (.head _) (by rw [show 0 + k * 1 = k by omega]; exact hcutD) (by rw [hD]; omega) (by omega) (strs_one _) sp1 .here rfl ?_
      refine go (k := ?_)
      refine XL.q (.cutLl (l := k) rfl rfl rfl rfl (by omega) (by omega)) rfl ?_
      refine go (k := ?_)
      refine XL.copy (m := 1) (news := [str s]) rfl rfl rfl rfl (.head _) (fun w ho hk => ((Rd.blk (.tail _ (.head _)) rfl (Nat.le_refl _) rfl : Rd _ _ _ (.slice (some ⟨bs, 0, none⟩) 1 1) 1 1 [str s]) w ho hk).src (Tab.hund _ _ rfl) rfl) (by omega) sp2 .here rfl ?_
      refine go (k := ?_)
      have hlen : (strs (xs.take k ++ s :: xs.drop k)).length = xs.length + 1 := by rw [← hfin, List.length_append, List.length_append, hA, hD, List.length_singleton]; omega
      refine XE.shutSl (m := xs.length + 1) (cap := cap) (k := 1) (xs := strs (xs.take k ++ s :: xs.drop k)) (b := b) (.head _) ?_ ?_ ?_ ?_ .here ?_
      · rw [hlen]; omega
      · omega
      · simp only [List.length_append, List.length_drop, hA, hD, hYl, List.length_singleton]; omega
      · rw [hlen, ← hfin, ← List.append_assoc, ← List.append_assoc, ← List.append_assoc, List.take_left' (by rw [List.length_append, List.length_append, hA, hD, List.length_singleton]; omega)]
      exact XE.ret1 _ [0] rfl rfl trivial rfl rfl rfl
theorem delete_ok (v : Value) (xs : List Tx) (i : Nat) (w : World) (hi : i < xs.length) (hl : xs.length ≤ 4611686018427387904) (ho : Owns w [.sl v 9 1 (strs xs)]) :
    Fx Try.prog 25 [v, .int .i64 i, .int .i64 ((i : Int) + 1)] w (Ret w [.sl v 9 1 (strs xs)] (fun v : Value => v) (fun v => [.sl v 9 1 (strs (xs.eraseIdx i))]) (fun _ => True)) := by
  refine Fx.of Try.func25 rfl (by kernel_rfl) Try.ntmps25 rfl ho ?_
  refine XC.openSl (m := xs.length) (.head _) (by decide) (by simp) (by omega) (fun _ _ => .here) fun b cs cap hv hc hcl hct => ?_
  subst hv
  obtain ⟨rest, rfl⟩ : ∃ rest, cs = strs xs ++ rest := ⟨cs.drop (strs xs).length, by rw [← hct, List.length_take, Nat.min_eq_left (by have := congrArg List.length hct; simp only [List.length_take] at this; omega), List.take_append_drop]⟩
  have hxl : (strs xs).length = xs.length := by simp
  refine go (k := ?_)
  refine XL.q (.cutX (l := i) (h := i + 1) (q := xs.length) rfl (.inl ⟨_, _, rfl, rfl⟩) (.inl ⟨_, _, rfl, rfl⟩) (.inl ⟨_, _, rfl, rfl⟩) rfl rfl (by omega) (by omega) hc) rfl ?_
  refine go (k := ?_)
  refine XD.q (.cutX (l := i + 1) (h := xs.length) (q := cap) rfl (.inl ⟨_, _, rfl, rfl⟩) (.inr ⟨rfl, rfl, rfl⟩) (.inr ⟨rfl, rfl⟩) rfl rfl (by omega) hc (Nat.le_refl _)) rfl ?_
  refine go (k := ?_)
  have hnews : (strs (xs.drop (i + 1))).length = xs.length - (i + 1) := by simp
  refine XL.appRoom (news := strs (xs.drop (i + 1))) (cs' := strs (xs.take i) ++ strs (xs.drop (i + 1)) ++ (strs (xs.drop (xs.length - 1)) ++ rest)) rfl rfl rfl rfl rfl (.head _)
    (.cut (.head _) (by rw [hnews, Nat.mul_one]) (by omega) (by omega) (by
      rw [cut_some (by rw [hnews]; simp; omega), hnews]
      congr 1
      rw [show 0 + (i + 1) * 1 = i + 1 by omega, List.drop_append_of_le_length (by simp; omega), List.take_append_of_le_length (by simp), strs, ← List.map_drop]
      rw [List.take_of_length_le (by simp)]))
    (strs_one _) (by omega) ⟨by rw [hnews]; simp; omega, ?_⟩ .here rfl ?_
  · rw [hnews, show 0 + i * 1 = i by omega]
    rw [List.take_append_of_le_length (by simp; omega), List.drop_append_of_le_length (by simp; omega)]
    simp only [strs, ← List.map_take, ← List.map_drop]
    rw [show i + (xs.length - (i + 1)) = xs.length - 1 by omega]
  refine go (k := ?_)
  have hlast : i + (xs.length - (i + 1)) = xs.length - 1 := by omega
  have hsplit : strs (xs.drop (xs.length - 1)) = [str (xs[xs.length - 1]'(by omega))] := by
    rw [List.drop_eq_getElem_cons (by omega), List.drop_of_length_le (by omega)]; rfl
  rw [hlast]
  refine XL.q (.cutL (l := xs.length - 1) (h := xs.length) rfl rfl rfl rfl rfl (by omega) hc (by omega)) rfl ?_
  rw [show xs.length - (xs.length - 1) = 1 by omega]
  refine XL.clear (cs' := strs (xs.take i) ++ strs (xs.drop (i + 1)) ++ (str [] :: rest)) rfl rfl rfl rfl (.head _) ⟨?_, ?_⟩ .here ?_
  · simp [zerosL, Value.cells]; omega
  · have e1 : (strs (xs.take i) ++ strs (xs.drop (i + 1))).length = 0 + (xs.length - 1) * 1 := by simp; omega
    rw [hsplit, ← e1]
    generalize strs (xs.take i) ++ strs (xs.drop (i + 1)) = A
    have e4 : (zerosL (Value.string ⟨⟨[]⟩⟩).cells.toList 1) = [str []] := rfl
    rw [e4, List.take_left, List.length_singleton, ← List.drop_drop, List.drop_left]
    simp
  refine go (k := ?_)
  have e2 : strs (xs.eraseIdx i) = strs (xs.take i) ++ strs (xs.drop (i + 1)) := by rw [List.eraseIdx_eq_take_drop_succ, strs_app]
  have e3 : (strs (xs.take i) ++ strs (xs.drop (i + 1))).length = xs.length - 1 := by simp; omega
  refine XE.shutSl (m := xs.length - 1) (cap := cap) (k := 1) (xs := strs (xs.eraseIdx i)) (.head _) (by rw [e2, e3, Nat.mul_one]) (by omega) ?_ (by rw [e2, List.take_left]) .here ?_
  · simp at hcl ⊢; omega
  exact XE.ret1 _ [0] rfl rfl trivial rfl rfl rfl
theorem delete0_ok (v : Value) (x : Tx) (xs : List Tx) (w : World) (hl : xs.length ≤ 1000) (ho : Owns w [.sl v 9 1 (strs (x :: xs))]) :
    Fx Try.prog 25 [v, iv 0, iv 1] w (Ret w [.sl v 9 1 (strs (x :: xs))] (fun v : Value => v) (fun v => [.sl v 9 1 (strs xs)]) (fun _ => True)) :=
  delete_ok v (x :: xs) 0 w (by simp) (by simp only [List.length_cons]; omega) ho
end Go.X
