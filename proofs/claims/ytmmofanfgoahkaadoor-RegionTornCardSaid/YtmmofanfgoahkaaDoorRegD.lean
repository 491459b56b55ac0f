/- Package region: writes in a row; Format. -/
import Derived.Test.YtmmofanfgoahkaaDoorRegC
namespace Go.X
open Go Go.Proofs
structure LI (n m : Nat) (x : Ln) : Prop where
  ok : Oks x.ds
  len : x.ds.length = n
  acts : x.acts ≤ m
theorem LI.act {n m : Nat} {x : Ln} (h : LI n m x) (cut : Int) (ch : List Int) (e : Int) {ds : List Slot} (hk : Oks ds) (hl : ds.length = n) : LI n (m + 1) (x.act cut ch e ds).2 := by
  have ha := h.acts
  unfold Ln.act
  split
  · exact ⟨h.ok, h.len, by simp only; omega⟩
  · split
    · refine ⟨settled_ok ?_, ?_, by simp only; omega⟩
      · split
        · exact hk
        · exact h.ok
      · simp only [settled_len]
        split
        · exact hl
        · exact h.len
    · exact ⟨hk, hl, by simp only; omega⟩
theorem LI.write {n m : Nat} {x : Ln} (h : LI n m x) (cut : Int) (ch : List Int) (k : Int) (s : List UInt8) : LI n (m + 1) (x.write cut ch k s).2 :=
  h.act cut ch _ (dwr_ok h.ok k s) (by rw [dwr_len]; exact h.len)
theorem LI.flush {n m : Nat} {x : Ln} (h : LI n m x) (cut : Int) (ch : List Int) : LI n (m + 1) (x.flush cut ch).2 :=
  h.act cut ch _ (settled_ok h.ok) (by rw [settled_len]; exact h.len)
/-- writes in a row, up to the first error -/
def wrs (cut : Int) (ch : List Int) : List (Int × List UInt8) → Ln → Int × Ln
  | [], x => (0, x)
  | p :: l, x => if (x.write cut ch p.1 p.2).1 ≠ 0 then x.write cut ch p.1 p.2 else wrs cut ch l (x.write cut ch p.1 p.2).2
theorem wrs_snoc {cut : Int} {ch : List Int} : ∀ (l : List (Int × List UInt8)) (x : Ln) (p : Int × List UInt8), (wrs cut ch l x).1 = 0 → wrs cut ch (l ++ [p]) x = (wrs cut ch l x).2.write cut ch p.1 p.2
  | [], x, p, _ => by
    simp only [List.nil_append, wrs]
    split
    · rfl
    · rename_i h
      have h' : (x.write cut ch p.1 p.2).1 = 0 := by simpa using h
      rw [← h']
  | q :: l, x, p, h => by
    simp only [List.cons_append, wrs] at h ⊢
    split at h
    · rename_i h1; exact absurd h h1
    · rename_i h1
      rw [if_neg h1, if_neg h1]
      exact wrs_snoc l _ p h
theorem wrs_stop {cut : Int} {ch : List Int} : ∀ (l m : List (Int × List UInt8)) (x : Ln), (wrs cut ch l x).1 ≠ 0 → wrs cut ch (l ++ m) x = wrs cut ch l x
  | [], m, x, h => absurd rfl h
  | q :: l, m, x, h => by
    simp only [List.cons_append, wrs] at h ⊢
    split
    · rfl
    · rename_i h1
      rw [if_neg h1] at h
      exact wrs_stop l m _ h
theorem LI.wrs {n : Nat} {cut : Int} {ch : List Int} : ∀ (l : List (Int × List UInt8)) {m : Nat} {x : Ln}, LI n m x → LI n (m + l.length) (X.wrs cut ch l x).2
  | [], m, x, h => h
  | p :: l, m, x, h => by
    have h1 := h.write cut ch p.1 p.2
    simp only [X.wrs]
    split
    · exact ⟨h1.ok, h1.len, by have := h1.acts; simp only [List.length_cons]; omega⟩
    · have := LI.wrs (cut := cut) (ch := ch) l h1
      rw [List.length_cons, show m + (l.length + 1) = m + 1 + l.length by omega]
      exact this
/-- what Format writes -/
def fmtl (a : Int) (n : Nat) : List (Int × List UInt8) := (List.range n).map fun k : Nat => (a + (k : Int), [])
def fmt (cut : Int) (ch : List Int) (a : Int) (n : Nat) (x : Ln) : Int × Ln :=
  if (wrs cut ch (fmtl a n) x).1 ≠ 0 then wrs cut ch (fmtl a n) x else (wrs cut ch (fmtl a n) x).2.flush cut ch
theorem fmtl_len (a : Int) (n : Nat) : (fmtl a n).length = n := by unfold fmtl; rw [List.length_map, List.length_range]
theorem fmtl_at (a : Int) {n k : Nat} (h : k < n) : (fmtl a n)[k]? = some (a + (k : Int), []) := by unfold fmtl; rw [List.getElem?_map, List.getElem?_range h]; rfl
set_option maxHeartbeats 1000000 in
theorem format_ok (bl b : Nat) (lv vc : Value) (cut : Int) (ch : List Int) (x : Ln) (a n m : Nat) (w : World) (hx : LI m 100000 x) (hm0 : 0 < m) (hm : m ≤ 100000) (ht : thr m a n = 0) (hn : n ≤ 65536)
    (hl : ch.length ≤ 1000000) (hw : ∀ a ∈ ch, -9223372036854775808 ≤ a ∧ a ≤ 9223372036854775807) (ho : Owns w (lnX bl b lv vc cut ch x)) :
    Fx Tryd.prog 9 [ptr bl, iv a, iv n] w (Ret w (lnX bl b lv vc cut ch x) (fun br : Nat => .tuple #[if (fmt cut ch a n x).1 = 0 then ptr br else .pointer none, iv (fmt cut ch a n x).1])
      (fun br => (if (fmt cut ch a n x).1 = 0 then [rgB br bl ⟨a, n, 0, false⟩] else []) ++ lnX bl b lv vc cut ch (fmt cut ch a n x).2) (fun _ => True)) := by
  have hown : ∀ w', Kept [] w w' → Owns w' (lnX bl b lv vc cut ch x) := fun w' k => ho.of_kept k (fun _ _ h => by cases h)
  have hlen : (a : Int) + n ≤ 200000 := by
    unfold thr at ht
    split at ht
    · cases ht
    · omega
  refine Fx.of Tryd.func9 rfl (by kernel_rfl) Tryd.ntmps9 rfl ho ?_
  refine go (k := ?_)
  refine XL.q (.call (v := iv 0) rfl rfl fun _ w' hs => by
    have := there_ok bl b lv vc cut ch x a n w' hx.ok (by rw [hx.len]; exact hm) hs.own
    rw [hx.len, ht] at this; exact this) rfl ?_
  refine go (k := ?_)
  refine XC.loop (α := Nat × Ln) (fun y => [(0, ptr bl), (1, iv a), (2, iv n), (19, iv n), (20, iv y.1)]) (fun y => lnX bl b lv vc cut ch y.2) (fun y => y.1 ≤ n ∧ wrs cut ch ((fmtl a n).take y.1) x = (0, y.2)) (fun y => n - y.1) (0, x) [0, 1, 2] ⟨Nat.zero_le _, rfl⟩ ⟨rfl, rfl, rfl, rfl, rfl, trivial⟩ rfl rfl ?_
  rintro ⟨k, y⟩ ⟨hk, hy⟩
  simp only at hk hy ⊢
  have hyi : LI m (100000 + k) y := by
    have := LI.wrs (cut := cut) (ch := ch) ((fmtl a n).take k) hx
    rw [hy, List.length_take, fmtl_len, Nat.min_eq_left hk] at this
    exact this
  have hya := hyi.acts
  by_cases hlt : k < n
  · have hsn : wrs cut ch ((fmtl a n).take (k + 1)) x = y.write cut ch (a + k) [] := by
      rw [take_snoc (fmtl_at (a : Int) hlt), wrs_snoc _ _ _ (by rw [hy]), hy]
    refine go (k := ?_)
    refine XL.call [0, 1, 2] [] rfl rfl rfl rfl rfl (fun _ w _ ho => lwrite_ok bl b lv vc cut ch y (a + k) [] w hyi.ok (by rw [hyi.len]; exact hm0) (by rw [hyi.len]; exact hm) (by omega) hl hw ho) fun _ _ => ?_
    obtain ⟨r, hr⟩ : ∃ r, r = y.write cut ch (a + k) [] := ⟨_, rfl⟩
    rw [← hr] at hsn ⊢
    obtain ⟨e1, y1⟩ := r
    simp only
    refine XL.nm (M := lnX bl b lv vc cut ch y1) ?_ (by simp [X.pick])
    by_cases he : e1 = 0
    · subst he
      refine go (k := ?_)
      exact XE.mid (k + 1, y1) [0, 1, 2] ⟨⟨by simp only; omega, hsn⟩, by simp only; omega⟩ ⟨rfl, rfl, rfl, rfl, rfl, trivial⟩ rfl rfl
    · have hall : fmt cut ch a n x = (e1, y1) := by
        have h1 : wrs cut ch (fmtl a n) x = (e1, y1) := by
          rw [← List.take_append_drop (k + 1) (fmtl a n), wrs_stop _ _ _ (by rw [hsn]; exact he), hsn]
        unfold fmt
        rw [h1, if_pos he]
      rw [hall]
      refine go (k := ?_)
      refine XE.ret2 0 [0, 1, 2] rfl rfl rfl trivial ?_ rfl ?_
      · simp [he]
      · simp [he, X.pick]
  · obtain rfl : k = n := by omega
    rw [List.take_of_length_le (by rw [fmtl_len]; exact Nat.le_refl _)] at hy
    refine go (k := ?_)
    refine XL.call [0, 1, 2] [] rfl rfl rfl rfl rfl (fun _ w _ ho => lflush_ok bl b lv vc cut ch y w hyi.ok (by rw [hyi.len]; exact hm) (by omega) hl hw ho) fun _ _ => ?_
    have hall : fmt cut ch a k x = y.flush cut ch := by unfold fmt; rw [hy, if_neg (by simp)]
    rw [hall]
    obtain ⟨r, hr⟩ : ∃ r, r = y.flush cut ch := ⟨_, rfl⟩
    rw [← hr]
    obtain ⟨e1, y1⟩ := r
    simp only
    refine XL.nm (M := lnX bl b lv vc cut ch y1) ?_ (by simp [X.pick])
    by_cases he : e1 = 0
    · subst he
      refine go (k := ?_)
      refine XL.box (zs := rgCs bl ⟨a, k, 0, false⟩) rfl rfl rfl fun br => ?_
      refine go (k := ?_)
      exact XE.ret2 br [0, 1, 2, 3] rfl rfl rfl trivial rfl rfl rfl
    · refine go (k := ?_)
      refine XE.ret2 0 [0, 1, 2] rfl rfl rfl trivial ?_ rfl ?_
      · simp [he]
      · simp [he, X.pick]
end Go.X
