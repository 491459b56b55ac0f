/- Contracts of package net: Post. -/
import Derived.Test.YtoeejaikmhedoaaNetB
namespace Go.X
open Go Go.Proofs
abbrev fn0 (f : Nat) : Value := .func (.func f) #[] #[]
abbrev fcells : List Value := [iv 0, fn0 39, iv 1, fn0 39, iv 2, fn0 39, iv 0, fn0 40, iv 0, fn0 41, iv 1, fn0 40]
theorem fates_ok (w : World) : Fx Try.prog 27 [] w (Pure w (.agg fcells.toArray)) := by
  refine Fx.of (L0 := []) Try.func27 rfl (by kernel_rfl) Try.ntmps27 rfl (Owns.nil w) ?_
  refine go (k := ?_)
  refine XL.alloc rfl rfl rfl fun b => ?_
  refine go (k := ?_)
  exact XE.retC () [] rfl rfl rfl rfl rfl (.head _) (show cut fcells 0 12 = some fcells from rfl) trivial rfl rfl rfl
theorem nowhere_ok (v : Value) (w : World) : Fx Try.prog 39 [v] w (Pure w (iv (-1))) := by
  refine Fx.of (L0 := []) Try.func39 rfl (by kernel_rfl) Try.ntmps39 rfl (Owns.nil w) ?_
  refine go (k := ?_)
  exact XE.ret1 () [] rfl rfl trivial rfl rfl rfl
theorem first_ok (v : Value) (w : World) : Fx Try.prog 40 [v] w (Pure w (iv 0)) := by
  refine Fx.of (L0 := []) Try.func40 rfl (by kernel_rfl) Try.ntmps40 rfl (Owns.nil w) ?_
  refine go (k := ?_)
  exact XE.ret1 () [] rfl rfl trivial rfl rfl rfl
theorem ahead_ok (ao : Option Addr) (l m : Nat) (hl : l ≤ 1000000) (w : World) : Fx Try.prog 41 [.slice ao l m] w (Pure w (iv ((l - 1 : Nat) : Int))) := by
  refine Fx.of (L0 := []) Try.func41 rfl (by kernel_rfl) Try.ntmps41 rfl (Owns.nil w) ?_
  refine go (k := ?_)
  refine XE.ret1 () [] rfl rfl trivial ?_ rfl rfl
  congr 1
  split <;> omega
/-- put at the end, some times -/
def wrep (p : Nat × List Tx) (s : Tx) : Nat → Nat × List Tx
  | 0 => p
  | i + 1 => wput (wrep p s i) (wrep p s i).2.length s
theorem wrep_ge (p : Nat × List Tx) (s : Tx) : ∀ i, p.2.length ≤ (wrep p s i).2.length
  | 0 => Nat.le_refl _
  | i + 1 => by
    have := wrep_ge p s i
    show _ ≤ (wput _ _ s).2.length
    rw [wput_len _ (Nat.le_refl _)]; split <;> omega
theorem wrep_le {p : Nat × List Tx} (h : p.2.length ≤ 64) (s : Tx) : ∀ i, (wrep p s i).2.length ≤ 64
  | 0 => h
  | i + 1 => wput_le (wrep_le h s i) (Nat.le_refl _) s
theorem wrep_lost (p : Nat × List Tx) (s : Tx) : ∀ i, (wrep p s i).1 ≤ p.1 + i
  | 0 => Nat.le_refl _
  | i + 1 => by
    have := wrep_lost p s i
    have h := wput_lost (wrep p s i) (wrep p s i).2.length s
    show (wput _ _ s).1 ≤ _; omega
def pfin (q : Nat × List Tx) (k : Int) (s : Tx) : Nat × List Tx := if 0 ≤ k then wput q k.toNat s else q
set_option maxHeartbeats 2000000 in
theorem post_gen (b f g : Nat) (n fa : Int) (i last F : Nat) (kF : Int) (lost : Nat) (ps : List Wy) (v : Value) (xs : List Tx) (s : Tx) (w : World) (hf : (f : Int) < n) (hg : (g : Int) < n) (hne : f ≠ g) (hn : n ≤ 8) (hs : s.length ≤ 4096) (hl : xs.length ≤ 64) (hlo : lost ≤ 1000000000)
    (hp : ps[f * 8 + g]? = some (v, xs)) (hfa : (fa.tmod 6 + 6) % 6 = i) (hi : i < 6) (hlast : last ≤ 2) (hcut : cut fcells (0 + i * 2) 2 = some [iv last, fn0 F]) (hF : ∀ ao m w, Fx Try.prog F [.slice ao xs.length m] w (Pure w (iv kF))) (hk1 : -1 ≤ kF) (hk2 : kF ≤ xs.length) (_hw : -9223372036854775808 ≤ fa ∧ fa ≤ 9223372036854775807) (ho : Owns w [netE b n lost ps]) :
    Fx Try.prog 16 [ptr b, iv f, iv g, str s, iv fa] w (Ret w [netE b n lost ps] (fun _ : Value => iv 0) (fun v' => [netE b n (pfin (wrep (if last = 0 ∧ kF < 0 then lost + 1 else lost, xs) s last) kF s).1 (ps.set (f * 8 + g) (v', (pfin (wrep (if last = 0 ∧ kF < 0 then lost + 1 else lost, xs) s last) kF s).2))]) (fun _ => True)) := by
  refine Fx.of Try.func16 rfl (by kernel_rfl) Try.ntmps16 rfl ho ?_
  refine XC.open1 ?_
  have hmem := net_mem hp b n lost
  have hlen : f * 8 + g < ps.length := (List.getElem?_eq_some_iff.1 hp).1
  refine XC.rdv (.sl (m := xs.length) hmem (by decide) (by simp)) fun ao m hv _ _ hao => ?_
  subst hv
  have hat := net_at (n := n) (lost := lost) hp
  have ht1 : -6 < fa.tmod 6 := Int.lt_tmod_of_pos fa (by decide)
  have ht2 : fa.tmod 6 < 6 := Int.tmod_lt_of_pos fa (by decide)
  refine go (k := ?_)
  refine XL.q (.call rfl rfl fun _ w' hs => at_ok b n _ _ _ f g w' hf hg hne hn (hs.own.ok _ (.head _))) rfl ?_
  refine go (k := ?_)
  refine XL.q (.call rfl rfl fun _ w' hs => fates_ok w') rfl ?_
  refine go (k := ?_)
  refine XL.alloc rfl rfl rfl fun b1 => ?_
  refine go (k := ?_)
  rw [hfa]
  refine go (k := ?_)
  refine XL.alloc rfl rfl rfl fun b2 => ?_
  refine go (k := ?_)
  refine XL.q (.call rfl rfl fun _ w _ => hF _ _ w) rfl ?_
  by_cases h00 : last = 0 ∧ kF < 0
  · obtain ⟨rfl, hk0⟩ := h00
    have e : pfin (wrep (if 0 = 0 ∧ kF < 0 then lost + 1 else lost, xs) s 0) kF s = (lost + 1, xs) := by
      unfold pfin wrep; rw [if_neg (by omega), if_pos ⟨rfl, hk0⟩]
    rw [e]
    have hself : ps.set (f * 8 + g) (Value.slice ao xs.length m, xs) = ps := lset_self hp
    have sp := net_lost (n := n) (lost := lost) ps 1
    refine go (k := ?_)
    refine XC.allR (L := [_, _]) (G := netG b n (lost + 1) ps) ?_
    refine XC.loop (α := Unit) (fun _ => [(15, iv kF), (59, iv ((0 : Nat) : Int)), (60, iv 0)]) (fun _ => [netE b n (lost + 1) ps]) (fun _ => True) (fun _ => 0) () [2] trivial ⟨rfl, rfl, rfl, trivial⟩ rfl rfl ?_
    intro _ _
    refine go (k := ?_)
    refine XE.ret1 (Value.slice ao xs.length m) [0] rfl rfl trivial rfl rfl ?_
    show _ = [netE b n (lost + 1) (ps.set (f * 8 + g) (Value.slice ao xs.length m, xs))]
    rw [hself]; rfl
  · rw [if_neg h00]
    obtain ⟨W, hW⟩ : ∃ W, W = wrep (lost, xs) s := ⟨_, rfl⟩
    have hWl : ∀ i, (W i).2.length ≤ 64 := fun i => by rw [hW]; exact wrep_le hl s i
    have hWg : ∀ i, xs.length ≤ (W i).2.length := fun i => by rw [hW]; exact wrep_ge (lost, xs) s i
    have hWo : ∀ i, (W i).1 ≤ lost + i := fun i => by rw [hW]; exact wrep_lost (lost, xs) s i
    have hW0 : W 0 = (lost, xs) := by rw [hW]; rfl
    have hWs : ∀ i, W (i + 1) = wput (W i) (W i).2.length s := fun i => by rw [hW]; rfl
    rw [← hW]
    clear hW
    have hself : ps.set (f * 8 + g) (Value.slice ao xs.length m, xs) = ps := lset_self hp
    have hor : (last = 0 ∧ ¬ kF < 0) ∨ last ≠ 0 := by omega
    have hset : ∀ v i, (ps.set (f * 8 + g) (v, (W i).2))[f * 8 + g]? = some (v, (W i).2) := fun v i => List.getElem?_set_self hlen
    rcases hor with ⟨h1, h2⟩ | h1
    all_goals
      refine go (k := ?_)
      refine XC.allR (L := [_, _]) (G := netG b n lost ps) ?_
      refine XC.loop (α := Nat × Value) (fun x => [(0, ptr b), (3, str s), (11, .pointer (some ⟨b, 0 + 2 + f * 8 + g * 1, none⟩)), (15, iv kF), (59, iv last), (60, iv x.1)]) (fun x => [netE b n (W x.1).1 (ps.set (f * 8 + g) (x.2, (W x.1).2))]) (fun x => x.1 ≤ last) (fun x => last - x.1) (0, Value.slice ao xs.length m) [2] (Nat.zero_le _) ⟨rfl, rfl, rfl, rfl, rfl, rfl, trivial⟩ rfl
        (by rw [hW0]; show _ = [netE b n lost (ps.set (f * 8 + g) (Value.slice ao xs.length m, xs))]; rw [hself]; rfl) ?_
      rintro ⟨j, v'⟩ hj
      simp only at hj ⊢
      have h3 := hWl j
      have h4 := hWo j
      have h5 := hWg j
      by_cases hjl : j < last
      · refine XC.open1 ?_
        have hp' := hset v' j
        have hmem' := net_mem hp' b n (W j).1
        refine XC.rdv (.sl (m := (W j).2.length) hmem' (by decide) (by simp)) fun ao' m' hv' _ _ _ => ?_
        subst hv'
        have hat' := net_at (n := n) (lost := (W j).1) hp'
        refine go (k := ?_)
        refine XL.all ?_
        refine XL.call [0] [] rfl rfl rfl rfl rfl (fun _ w _ ho => put_ok b f g n (W j).1 _ _ (W j).2 (W j).2.length s w (Nat.le_refl _) h3 (by omega) hp' ho) fun v2 _ => ?_
        refine go (k := ?_)
        refine XE.mid (j + 1, v2) [0] ⟨show j + 1 ≤ last by omega, show last - (j + 1) < last - j by omega⟩ ⟨rfl, rfl, rfl, rfl, rfl, rfl, trivial⟩ rfl ?_
        rw [hWs, List.set_set]; rfl
      · obtain rfl : j = last := by omega
        by_cases hk0 : 0 ≤ kF
        · obtain ⟨kn, rfl⟩ : ∃ kn : Nat, kF = kn := ⟨kF.toNat, by omega⟩
          have e : pfin (W j) (kn : Int) s = wput (W j) kn s := by unfold pfin; rw [if_pos hk0, Int.toNat_natCast]
          rw [e]
          refine go (k := ?_)
          refine XL.call [0] [] rfl rfl rfl rfl rfl (fun _ w _ ho => put_ok b f g n (W j).1 _ v' (W j).2 kn s w (by omega) h3 (by omega) (hset v' j) ho) fun v2 _ => ?_
          refine go (k := ?_)
          refine XE.ret1 v2 [0] rfl rfl trivial rfl rfl ?_
          show [netE b n _ ((ps.set (f * 8 + g) (v', (W j).2)).set (f * 8 + g) (v2, _))] = _
          rw [List.set_set]
        · first
            | (exfalso; omega)
            | (have e : pfin (W j) kF s = W j := by unfold pfin; rw [if_neg hk0]
               rw [e]
               refine go (k := ?_)
               exact XE.ret1 v' [0] rfl rfl trivial rfl rfl rfl)
/-- Post, of a message that is not too long, on a way -/
theorem post_ok (b f g : Nat) (n fa : Int) (lost : Nat) (ps : List Wy) (v : Value) (xs : List Tx) (s : Tx) (w : World) (hf : (f : Int) < n) (hg : (g : Int) < n) (hne : f ≠ g) (hn : n ≤ 8) (hs : s.length ≤ 4096) (hl : xs.length ≤ 64) (hlo : lost ≤ 1000000000)
    (hp : ps[f * 8 + g]? = some (v, xs)) (hw : -9223372036854775808 ≤ fa ∧ fa ≤ 9223372036854775807) (ho : Owns w [netE b n lost ps]) :
    Fx Try.prog 16 [ptr b, iv f, iv g, str s, iv fa] w (Ret w [netE b n lost ps] (fun _ : Value => iv 0) (fun v' => [netE b n (wpost ((fa.tmod 6 + 6) % 6) s (lost, xs)).1 (ps.set (f * 8 + g) (v', (wpost ((fa.tmod 6 + 6) % 6) s (lost, xs)).2))]) (fun _ => True)) := by
  have ht1 : -6 < fa.tmod 6 := Int.lt_tmod_of_pos fa (by decide)
  have ht2 : fa.tmod 6 < 6 := Int.tmod_lt_of_pos fa (by decide)
  have hcase : (fa.tmod 6 + 6) % 6 = 0 ∨ (fa.tmod 6 + 6) % 6 = 1 ∨ (fa.tmod 6 + 6) % 6 = 2 ∨ (fa.tmod 6 + 6) % 6 = 3 ∨ (fa.tmod 6 + 6) % 6 = 4 ∨ (fa.tmod 6 + 6) % 6 = 5 := by omega
  have hz : ((xs.length - 1 : Nat) : Int) ≤ (xs.length : Int) := by omega
  rcases hcase with h | h | h | h | h | h
  · have := post_gen b f g n fa 0 0 39 (-1) lost ps v xs s w hf hg hne hn hs hl hlo hp h (by decide) (by decide) rfl (fun _ _ w => nowhere_ok _ w) (by decide) (by omega) hw ho
    rw [h]; exact this
  · have := post_gen b f g n fa 1 1 39 (-1) lost ps v xs s w hf hg hne hn hs hl hlo hp h (by decide) (by decide) rfl (fun _ _ w => nowhere_ok _ w) (by decide) (by omega) hw ho
    rw [h]; exact this
  · have := post_gen b f g n fa 2 2 39 (-1) lost ps v xs s w hf hg hne hn hs hl hlo hp h (by decide) (by decide) rfl (fun _ _ w => nowhere_ok _ w) (by decide) (by omega) hw ho
    rw [h]; exact this
  · have := post_gen b f g n fa 3 0 40 0 lost ps v xs s w hf hg hne hn hs hl hlo hp h (by decide) (by decide) rfl (fun _ _ w => first_ok _ w) (by decide) (by omega) hw ho
    rw [h]; exact this
  · have := post_gen b f g n fa 4 0 41 ((xs.length - 1 : Nat) : Int) lost ps v xs s w hf hg hne hn hs hl hlo hp h (by decide) (by decide) rfl (fun ao m w => ahead_ok ao _ m (by omega) w) (by omega) hz hw ho
    have e : pfin (wrep (if 0 = 0 ∧ ((xs.length - 1 : Nat) : Int) < 0 then lost + 1 else lost, xs) s 0) ((xs.length - 1 : Nat) : Int) s = wpost 4 s (lost, xs) := by
      unfold pfin wrep; rw [if_pos (by omega), if_neg (by omega)]; rfl
    rw [e] at this
    rw [h]; exact this
  · have := post_gen b f g n fa 5 1 40 0 lost ps v xs s w hf hg hne hn hs hl hlo hp h (by decide) (by decide) rfl (fun _ _ w => first_ok _ w) (by decide) (by omega) hw ho
    rw [h]; exact this
end Go.X
