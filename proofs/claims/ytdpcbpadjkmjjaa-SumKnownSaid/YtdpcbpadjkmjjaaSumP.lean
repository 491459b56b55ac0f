/- Two sums in one number: plain laws. -/
namespace Go.X

def step2 (p : Int × Int) (c : UInt8) : Int × Int := ((p.1 + c.toNat) % 65535, (p.2 + (p.1 + c.toNat) % 65535) % 65535)
def run2 (p : Int × Int) (l : List UInt8) : Int × Int := l.foldl step2 p
def ok2 (p : Int × Int) : Prop := 0 ≤ p.1 ∧ p.1 < 65535 ∧ 0 ≤ p.2 ∧ p.2 < 65535
theorem run2_snoc (p : Int × Int) (l : List UInt8) (c : UInt8) : run2 p (l ++ [c]) = step2 (run2 p l) c := by simp [run2]
theorem step2_ok (p : Int × Int) (c : UInt8) : ok2 (step2 p c) := by
  simp only [step2, ok2]; omega
theorem run2_ok {p : Int × Int} (h : ok2 p) (l : List UInt8) : ok2 (run2 p l) := by
  rcases List.eq_nil_or_concat l with rfl | ⟨m, c, rfl⟩
  · exact h
  · rw [List.concat_eq_append, run2_snoc]; exact step2_ok _ _
theorem run2_app (p : Int × Int) (s t : List UInt8) : run2 p (s ++ t) = run2 (run2 p s) t := by simp [run2]
theorem byte_lt (c : UInt8) : (c.toNat : Int) < 256 := by have := c.toNat_lt; omega
theorem stake_snoc {l : List UInt8} {k : Nat} {c : UInt8} (h : l[k]? = some c) : l.take (k + 1) = l.take k ++ [c] := by
  obtain ⟨hk, rfl⟩ := List.getElem?_eq_some_iff.1 h
  exact List.take_succ_eq_append_getElem hk

def says2 (n : Int) : Int × Int := (n % 65536 % 65535, n / 65536 % 65535)
def num2 (p : Int × Int) : Int := p.2 * 65536 + p.1
theorem says2_ok {n : Int} (_ : 0 ≤ n) (_ : n < 4294967296) : ok2 (says2 n) := by simp only [says2, ok2]; omega
def upd2 (n : Int) (l : List UInt8) : Int := num2 (run2 (says2 n) l)
theorem num2_lt {p : Int × Int} (h : ok2 p) : 0 ≤ num2 p ∧ num2 p < 4294967296 := by
  obtain ⟨h0, h1, h2, h3⟩ := h
  simp only [num2]; omega
theorem upd2_lt {n : Int} (h0 : 0 ≤ n) (h1 : n < 4294967296) (l : List UInt8) : 0 ≤ upd2 n l ∧ upd2 n l < 4294967296 := num2_lt (run2_ok (says2_ok h0 h1) l)
theorem says2_num2 {p : Int × Int} (h : ok2 p) : says2 (num2 p) = p := by
  obtain ⟨x, y⟩ := p
  obtain ⟨h0, h1, h2, h3⟩ := h
  simp only at h0 h1 h2 h3
  simp only [says2, num2, Prod.mk.injEq]; omega
theorem num2_inj {p q : Int × Int} (h : ok2 p) (k : ok2 q) (e : num2 p = num2 q) : p = q := by
  rw [← says2_num2 h, ← says2_num2 k, e]
theorem upd2_app {n : Int} (h0 : 0 ≤ n) (h1 : n < 4294967296) (s t : List UInt8) : upd2 (upd2 n s) t = upd2 n (s ++ t) := by
  simp only [upd2, says2_num2 (run2_ok (says2_ok h0 h1) s), run2_app]

def nat0 (n : Int) : Int := if 0 < n then n else 0
def join2 (a b n : Int) : Int × Int :=
  (((says2 a).1 + 65535 - 1 + (says2 b).1) % 65535, ((says2 a).2 + (says2 b).2 + (nat0 n % 65535) * (((says2 a).1 + 65535 - 1) % 65535)) % 65535)
theorem mul_bd {x y : Int} (h0 : 0 ≤ x) (h1 : x < 65535) (h2 : 0 ≤ y) (h3 : y < 65535) : 0 ≤ x * y ∧ x * y ≤ 4294705156 := by
  have h4 : x * y ≤ 65534 * 65534 := Int.mul_le_mul (by omega) (by omega) h2 (by decide)
  exact ⟨Int.mul_nonneg h0 h2, by omega⟩
theorem join2_ok (a b n : Int) : ok2 (join2 a b n) := by
  simp only [join2, ok2]; omega

/-! ### the sums in the open -/
def sumB : List UInt8 → Int
  | [] => 0
  | c :: t => c.toNat + sumB t
def wsum : List UInt8 → Int
  | [] => 0
  | c :: t => (t.length + 1) * c.toNat + wsum t
theorem run2_eq : ∀ (t : List UInt8) (p : Int × Int), ok2 p → run2 p t = ((p.1 + sumB t) % 65535, (p.2 + t.length * p.1 + wsum t) % 65535)
  | [], p, h => by
    obtain ⟨x, y⟩ := p
    obtain ⟨h0, h1, h2, h3⟩ := h
    simp only at h0 h1 h2 h3
    simp only [run2, List.foldl_nil, sumB, wsum, List.length_nil, Prod.mk.injEq]; omega
  | c :: t, p, h => by
    have e : run2 p (c :: t) = run2 (step2 p c) t := rfl
    rw [e, run2_eq t _ (step2_ok p c)]
    simp only [step2, sumB, wsum, List.length_cons, Prod.mk.injEq]
    refine ⟨by omega, ?_⟩
    obtain ⟨q, hq⟩ : ∃ q, (p.1 + c.toNat) / 65535 = q := ⟨_, rfl⟩
    have h1 : (p.1 + c.toNat) % 65535 = p.1 + c.toNat - 65535 * q := by omega
    rw [h1]
    have h2 : (t.length : Int) * (p.1 + c.toNat - 65535 * q) = t.length * p.1 + t.length * c.toNat - 65535 * (t.length * q) := by
      rw [Int.mul_sub, Int.mul_add, Int.mul_left_comm]
    have h3 : ((t.length : Int) + 1) * c.toNat = t.length * c.toNat + c.toNat := by rw [Int.add_mul]; omega
    have h4 : ((t.length + 1 : Nat) : Int) * p.1 = t.length * p.1 + p.1 := by rw [Int.natCast_add, Int.add_mul]; omega
    rw [h2, h3, h4]
    omega
theorem sumB_app (s t : List UInt8) : sumB (s ++ t) = sumB s + sumB t := by
  induction s with
  | nil => simp [sumB]
  | cons c s ih => simp only [List.cons_append, sumB, ih]; omega
theorem wsum_app (s t : List UInt8) : wsum (s ++ t) = wsum s + t.length * sumB s + wsum t := by
  induction s with
  | nil => simp [sumB, wsum]
  | cons c s ih =>
    simp only [List.cons_append, sumB, wsum, ih, List.length_append]
    have h1 : (((s.length + t.length : Nat) : Int) + 1) * c.toNat = ((s.length : Int) + 1) * c.toNat + t.length * c.toNat := by
      rw [Int.natCast_add, ← Int.add_mul]; congr 1; omega
    have h2 : (t.length : Int) * (c.toNat + sumB s) = t.length * c.toNat + t.length * sumB s := Int.mul_add ..
    rw [h1, h2]; omega
theorem says2_1 : says2 1 = (1, 0) := by decide
theorem ok2_1 : ok2 (1, 0) := by simp [ok2]

/-- The sum of a text, by both sums. -/
theorem upd2_1 (s : List UInt8) : upd2 1 s = num2 ((1 + sumB s) % 65535, (s.length + wsum s) % 65535) := by
  simp only [upd2, says2_1, run2_eq s _ ok2_1]
  congr 2; omega

/-! ### congruence -/
theorem mulmod (x y : Int) : (x % 65535) * (y % 65535) % 65535 = x * y % 65535 := by rw [← Int.mul_emod]
theorem dvd_of {x y : Int} (h : x % 65535 = y % 65535) : ∃ q, x = y + 65535 * q := ⟨x / 65535 - y / 65535, by omega⟩
theorem join2_eq (a b n : Int) : join2 a b n = (((says2 a).1 - 1 + (says2 b).1) % 65535, ((says2 a).2 + (says2 b).2 + nat0 n * ((says2 a).1 - 1)) % 65535) := by
  have h := mulmod (nat0 n) ((says2 a).1 + 65535 - 1)
  have h2 : nat0 n * ((says2 a).1 + 65535 - 1) = nat0 n * ((says2 a).1 - 1) + 65535 * nat0 n := by
    rw [show (says2 a).1 + 65535 - 1 = ((says2 a).1 - 1) + 65535 by omega, Int.mul_add, Int.mul_comm _ 65535]
  rw [h2] at h
  simp only [join2, Prod.mk.injEq]
  refine ⟨by omega, ?_⟩
  obtain ⟨q, hq⟩ := dvd_of h
  rw [hq]; omega

/-- P2.4 -/
theorem join2_sums (s t : List UInt8) : join2 (upd2 1 s) (upd2 1 t) t.length = run2 (1, 0) (s ++ t) := by
  rw [join2_eq]
  have hs := says2_num2 (p := ((1 + sumB s) % 65535, (s.length + wsum s) % 65535)) (by simp only [ok2]; omega)
  have ht := says2_num2 (p := ((1 + sumB t) % 65535, (t.length + wsum t) % 65535)) (by simp only [ok2]; omega)
  rw [upd2_1 s, upd2_1 t, hs, ht, run2_eq _ _ ok2_1, sumB_app, wsum_app]
  have hn : nat0 (t.length : Int) = t.length := by simp only [nat0]; split <;> omega
  rw [hn]
  simp only [Prod.mk.injEq, List.length_append]
  refine ⟨by omega, ?_⟩
  obtain ⟨q, hq⟩ : ∃ q, (1 + sumB s) / 65535 = q := ⟨_, rfl⟩
  have h1 : (1 + sumB s) % 65535 = 1 + sumB s - 65535 * q := by omega
  rw [h1]
  have h2 : (t.length : Int) * (1 + sumB s - 65535 * q - 1) = t.length * sumB s - 65535 * (t.length * q) := by
    rw [show 1 + sumB s - 65535 * q - 1 = sumB s - 65535 * q by omega, Int.mul_sub, Int.mul_left_comm]
  rw [h2]
  omega
/-- P2.4: three in whatever order -/
theorem join2_assoc {a b c k l : Int} (hk : 0 ≤ k) (hl : 0 ≤ l) : join2 (num2 (join2 a b k)) c l = join2 a (num2 (join2 b c l)) (k + l) := by
  rw [join2_eq (num2 (join2 a b k)) c l, says2_num2 (join2_ok a b k), join2_eq a (num2 (join2 b c l)) (k + l), says2_num2 (join2_ok b c l), join2_eq a b k, join2_eq b c l]
  have hn : ∀ x : Int, 0 ≤ x → nat0 x = x := fun x hx => by simp only [nat0]; split <;> omega
  rw [hn k hk, hn l hl, hn (k + l) (by omega)]
  obtain ⟨a1, a2⟩ := says2 a
  obtain ⟨b1, b2⟩ := says2 b
  obtain ⟨c1, c2⟩ := says2 c
  simp only [Prod.mk.injEq]
  refine ⟨by omega, ?_⟩
  obtain ⟨q, hq⟩ : ∃ q, (a1 - 1 + b1) / 65535 = q := ⟨_, rfl⟩
  have h1 : (a1 - 1 + b1) % 65535 = a1 - 1 + b1 - 65535 * q := by omega
  rw [h1]
  have h2 : l * (a1 - 1 + b1 - 65535 * q - 1) = l * (a1 - 1) + l * (b1 - 1) - 65535 * (l * q) := by
    rw [show a1 - 1 + b1 - 65535 * q - 1 = (a1 - 1) + (b1 - 1) - 65535 * q by omega, Int.mul_sub, Int.mul_add, Int.mul_left_comm]
  have h3 : (k + l) * (a1 - 1) = k * (a1 - 1) + l * (a1 - 1) := Int.add_mul ..
  rw [h2, h3]
  omega
/-- P2.5: another byte -/
theorem tells_one (s t : List UInt8) (x c : UInt8) : upd2 1 (s ++ [c] ++ t) = upd2 1 (s ++ [x] ++ t) ↔ x = c := by
  constructor
  · intro h
    rw [upd2_1, upd2_1] at h
    have := num2_inj (by simp only [ok2]; omega) (by simp only [ok2]; omega) h
    simp only [Prod.mk.injEq, sumB_app, sumB] at this
    have h1 := byte_lt x
    have h2 := byte_lt c
    have h3 : x.toNat = c.toNat := by omega
    exact UInt8.toNat_inj.1 h3
  · rintro rfl; rfl
/-- P2.5: two bytes that changed their places -/
theorem tells_two (s m t : List UInt8) (x y : UInt8) (hm : m.length < 256) : upd2 1 (s ++ [y] ++ m ++ [x] ++ t) = upd2 1 (s ++ [x] ++ m ++ [y] ++ t) ↔ x = y := by
  constructor
  · intro h
    have key : wsum (s ++ [y] ++ m ++ [x] ++ t) = wsum (s ++ [x] ++ m ++ [y] ++ t) + ((m.length : Int) + 1) * (y.toNat - x.toNat) := by
      simp only [wsum_app, sumB_app, sumB, wsum, List.length_cons, List.length_nil, Int.mul_add, Int.add_mul, Int.mul_sub, Int.natCast_add, Int.one_mul, Int.mul_zero, Int.natCast_zero, Int.zero_mul, Int.natCast_one]
      omega
    rw [upd2_1, upd2_1, key] at h
    have h5 := num2_inj (by simp only [ok2]; omega) (by simp only [ok2]; omega) h
    simp only [Prod.mk.injEq, List.length_append, List.length_cons, List.length_nil] at h5
    obtain ⟨_, h2⟩ := h5
    have h3 := byte_lt x
    have h4 := byte_lt y
    obtain ⟨M, hM, hM0, hM1⟩ : ∃ M : Int, (m.length : Int) + 1 = M ∧ 1 ≤ M ∧ M ≤ 256 := ⟨_, rfl, by omega, by omega⟩
    rw [hM] at h2
    obtain ⟨d, hd⟩ : ∃ d : Int, (y.toNat : Int) - x.toNat = d := ⟨_, rfl⟩
    rw [hd] at h2
    have hd0 : d = 0 := by
      rcases Int.lt_trichotomy d 0 with hn | hz | hp
      · exfalso
        have h6 : M * (-d) ≤ 256 * 255 := Int.mul_le_mul hM1 (by omega) (by omega) (by decide)
        have h7 : 1 * 1 ≤ M * (-d) := Int.mul_le_mul hM0 (by omega) (by decide) (by omega)
        rw [Int.mul_neg] at h6 h7
        omega
      · exact hz
      · exfalso
        have h6 : M * d ≤ 256 * 255 := Int.mul_le_mul hM1 (by omega) (by omega) (by decide)
        have h7 : 1 * 1 ≤ M * d := Int.mul_le_mul hM0 (by omega) (by decide) (by omega)
        omega
    exact UInt8.toNat_inj.1 (by omega)
  · rintro rfl; rfl
end Go.X
