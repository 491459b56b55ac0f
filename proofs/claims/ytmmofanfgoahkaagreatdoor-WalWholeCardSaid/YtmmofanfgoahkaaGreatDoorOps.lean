/- One lemma an operation: what it yields, out of what its operands hold. 'Quiet': it yields a value and changes no block. -/
import Derived.Test.YtmmofanfgoahkaaGreatDoorBase
import Derived.Laws.Strings
namespace Go.X
open Go

def restr (e : Env) (ts : List Nat) : Env := e.filter fun p => ts.contains p.1
theorem get_restr {e : Env} {ts : List Nat} {t : Nat} (ht : t ∈ ts) : get (restr e ts) t = get e t := by
  induction e with
  | nil => rfl
  | cons p e ih =>
    obtain ⟨j, v⟩ := p
    simp only [restr, List.filter_cons]
    by_cases hj : j ∈ ts
    · have : ts.contains j = true := by simpa using hj
      simp only [this, if_true, get]
      cases Nat.beq t j
      · simpa [restr] using ih
      · rfl
    · have h1 : ts.contains j = false := by simpa using hj
      have h2 : Nat.beq t j = false := by
        cases hb : Nat.beq t j with
        | false => rfl
        | true => exact absurd (Nat.eq_of_beq_eq_true hb ▸ ht) hj
      simp only [h1, get, h2]
      simpa [restr] using ih
theorem get_restr_sub {e : Env} {ts : List Nat} {t : Nat} {v : Value} (h : get (restr e ts) t = some v) : get e t = some v := by
  by_cases ht : t ∈ ts
  · rwa [get_restr ht] at h
  · exfalso
    induction e with
    | nil => simp [restr, get] at h
    | cons p e ih =>
      obtain ⟨j, u⟩ := p
      simp only [restr, List.filter_cons] at h
      by_cases hj : j ∈ ts
      · have h1 : ts.contains j = true := by simpa using hj
        have h2 : Nat.beq t j = false := by
          cases hb : Nat.beq t j with
          | false => rfl
          | true => exact absurd (Nat.eq_of_beq_eq_true hb ▸ hj) ht
        simp only [h1, if_true, get, h2] at h
        exact ih (by simpa [restr] using h)
      · have h1 : ts.contains j = false := by simpa using hj
        simp only [h1] at h
        exact ih (by simpa [restr] using h)

def tmpsOf (op : Op) : List Nat := op.operands.toList.filterMap fun | .tmp t => some t | _ => none
theorem ev_restr {e : Env} {op : Op} {x : Operand} (hx : x ∈ op.operands) : ev (restr e (tmpsOf op)) x = ev e x := by
  cases x with
  | tmp t => exact get_restr (List.mem_filterMap.2 ⟨.tmp t, by simpa using hx, rfl⟩)
  | const v => rfl
  | global g => rfl
  | func f => rfl

section
variable {P : Program} {r : Option Nat} {w0 : World} {B : List Nat} {n : Nat} {Q : Post} {e : Env} {ds : List Deferred} {L : Heap}

/-- An operation that yields v and changes no block that was there. -/
structure Quiet (P : Program) (r : Option Nat) (w0 : World) (B : List Nat) (n : Nat) (ds : List Deferred) (L : Heap) (op : Op) (ty : TypeId) (e : Env) (v : Value) : Prop where
  at_ : ∀ (d : Option Nat) (pos : String) (af : Array Edge) (g : Option (Nat × Bool)) (a : Act) (w : World), Sit w0 B n (restr e (tmpsOf op)) ds L a w →
    ∀ (K : Act → World → Prop) (Qx : Post), (∀ w', Kept [] w w' → K (a.put d v) w') → Oper.wpIn (FW r) 0 P ⟨d, op, ty, pos, af, g⟩ a w K Qx

theorem semAt_of (r : Option Nat) (ρ : Operand → Value) (o : Oper) (h : ∀ c, o.op ≠ .defer c) : Oper.semAt r ρ o = execOp ρ o := by
  cases r with
  | none => rfl
  | some l => exact Oper.semAt_some l _ _ h

/-- Out of its run. -/
theorem Quiet.run {op : Op} {ty : TypeId} {v : Value} (hop : ∀ c, op ≠ .defer c)
    (h : ∀ (ρ : Operand → Value) (d : Option Nat) (pos : String) (af : Array Edge) (g : Option (Nat × Bool)) (w : World), (∀ x ∈ op.operands, ∀ u, ev e x = some u → ρ x = u) → Owns w L → Kept B w0 w →
      (execOp ρ ⟨d, op, ty, pos, af, g⟩).run P w = .ok (.value v) w) : Quiet P r w0 B n ds L op ty e v := by
  refine ⟨fun d pos af g a w hs K Qx hK => ?_⟩
  refine ⟨fun _ _ => trivial, ?_⟩
  simp only [FW_round]
  rw [semAt_of r _ _ hop, h a.eval d pos af g w (fun x hx u hu => hs.eval (by rw [ev_restr hx]; exact hu)) hs.own hs.kept]
  exact hK w (.refl _ _)

/-- In a region in the order of the text. -/
theorem XL.q {ops : Array Oper} {rest : List Oper} {d : Nat} {op : Op} {ty : TypeId} {pos : String} {af : Array Edge} {v : Value}
    (hq : Quiet P r w0 B n ds L op ty e v) (hd : Nat.blt d n = true)
    (h : XL P r w0 B n ops rest Q ((d, v) :: e) ds L) : XL P r w0 B n ops (⟨some d, op, ty, pos, af, none⟩ :: rest) Q e ds L := by
  refine ⟨fun a w hs => ?_⟩
  refine wpListIn_plain rfl (fun K hK => ?_)
  refine hq.at_ _ _ _ _ a w (hs.sub fun i v h => get_restr_sub h) K _ (fun w' hk => hK _ _ (h.run _ _ ?_))
  exact (hs.step hk (fun _ h => by cases h) (hs.own.of_kept hk (fun _ _ h => by cases h)) (fun b hb => .inl hb)).put hd
/-- A call that yields nothing. -/
theorem XL.qn {ops : Array Oper} {rest : List Oper} {op : Op} {ty : TypeId} {pos : String} {af : Array Edge} {v : Value}
    (hq : Quiet P r w0 B n ds L op ty e v)
    (h : XL P r w0 B n ops rest Q e ds L) : XL P r w0 B n ops (⟨none, op, ty, pos, af, none⟩ :: rest) Q e ds L := by
  refine ⟨fun a w hs => ?_⟩
  refine wpListIn_plain rfl (fun K hK => ?_)
  refine hq.at_ _ _ _ _ a w (hs.sub fun i v h => get_restr_sub h) K _ (fun w' hk => hK _ _ (h.run _ _ ?_))
  exact hs.step hk (fun _ h => by cases h) (hs.own.of_kept hk (fun _ _ h => by cases h)) (fun b hb => .inl hb)

/-! ### Moves -/
theorem Quiet.mv {x : Operand} {ty : TypeId} {v : Value} (hx : ev e x = some v) : Quiet P r w0 B n ds L (.move x) ty e v :=
  .run (by simp) fun ρ d pos af g w hρ _ _ => by
    simp only [execOp, hρ x (by simp [Op.operands]) v hx]; rfl
theorem Quiet.as {x : Operand} {ty : TypeId} {v : Value} (hx : ev e x = some v) : Quiet P r w0 B n ds L (.assign x) ty e v :=
  .run (by simp) fun ρ d pos af g w hρ _ _ => by
    simp only [execOp, hρ x (by simp [Op.operands]) v hx]; rfl
theorem Quiet.pickT {c x y : Operand} {ty : TypeId} {b : Bool} {v : Value} (hc : ev e c = some (.bool b)) (hb : b = true) (hx : ev e x = some v) : Quiet P r w0 B n ds L (.pick c x y) ty e v :=
  .run (by simp) fun ρ d pos af g w hρ _ _ => by
    subst hb
    simp only [execOp, hρ c (by simp [Op.operands]) _ hc, hρ x (by simp [Op.operands]) v hx]; rfl
theorem Quiet.pickF {c x y : Operand} {ty : TypeId} {b : Bool} {v : Value} (hc : ev e c = some (.bool b)) (hb : b = false) (hy : ev e y = some v) : Quiet P r w0 B n ds L (.pick c x y) ty e v :=
  .run (by simp) fun ρ d pos af g w hρ _ _ => by
    subst hb
    simp only [execOp, hρ c (by simp [Op.operands]) _ hc, hρ y (by simp [Op.operands]) v hy]; rfl
theorem Quiet.nilCheck {x : Operand} {ty : TypeId} {a : Addr} (hx : ev e x = some (.pointer (some a))) : Quiet P r w0 B n ds L (.nilCheck x) ty e (.pointer (some a)) :=
  .run (by simp) fun ρ d pos af g w hρ _ _ => by
    simp only [execOp, hρ x (by simp [Op.operands]) _ hx]; rfl
theorem Quiet.extract {x : Operand} {ty : TypeId} {vs : List Value} {i : Nat} {v : Value} (hx : ev e x = some (.tuple vs.toArray)) (hi : vs[i]? = some v) : Quiet P r w0 B n ds L (.extract x i) ty e v :=
  .run (by simp) fun ρ d pos af g w hρ _ _ => by
    simp only [execOp, hρ x (by simp [Op.operands]) _ hx, Instr.extract, List.getElem?_toArray, hi]; rfl
theorem Quiet.makeFunc {fn : Fn} {first cap : Array Operand} {ty : TypeId} {vs us : List Value} (h1 : evs e first.toList = some vs) (h2 : evs e cap.toList = some us) :
    Quiet P r w0 B n ds L (.makeFunc fn first cap) ty e (.func fn vs.toArray us.toArray) := by
  have hmap : ∀ (ρ : Operand → Value) (xs : List Operand) (vs : List Value), evs e xs = some vs → (∀ x ∈ xs, ∀ u, ev e x = some u → ρ x = u) → xs.map ρ = vs := by
    intro ρ xs
    induction xs with
    | nil => intro vs hv _; simpa [evs] using hv
    | cons x xs ih =>
      intro vs hv hρ
      simp only [evs] at hv
      cases hx : ev e x with
      | none => rw [hx] at hv; cases hv
      | some v =>
        rw [hx] at hv
        cases hxs : evs e xs with
        | none => rw [hxs] at hv; cases hv
        | some us =>
          rw [hxs] at hv; cases hv
          simp [hρ x (by simp) v hx, ih us hxs (fun y hy => hρ y (by simp [hy]))]
  refine .run (by simp) fun ρ d pos af g w hρ _ _ => ?_
  have e1 : first.map ρ = vs.toArray := by
    rw [← Array.toList_inj]; simp only [Array.toList_map]; exact hmap ρ _ _ h1 (fun x hx => hρ x (by simp [Op.operands]; exact .inl (by simpa using hx)))
  have e2 : cap.map ρ = us.toArray := by
    rw [← Array.toList_inj]; simp only [Array.toList_map]; exact hmap ρ _ _ h2 (fun x hx => hρ x (by simp [Op.operands]; exact .inr (by simpa using hx)))
  simp only [execOp, Instr.makeFunc, e1, e2]; rfl

/-! ### Numbers -/
def inR : IntKind → Int → Prop
  | .i8, x => -128 ≤ x ∧ x ≤ 127
  | .i16, x => -32768 ≤ x ∧ x ≤ 32767
  | .i32, x => -2147483648 ≤ x ∧ x ≤ 2147483647
  | .i64, x => -9223372036854775808 ≤ x ∧ x ≤ 9223372036854775807
  | .u8, x => 0 ≤ x ∧ x ≤ 255
  | .u16, x => 0 ≤ x ∧ x ≤ 65535
  | .u32, x => 0 ≤ x ∧ x ≤ 4294967295
  | .u64, x => 0 ≤ x ∧ x ≤ 18446744073709551615
theorem wrap_in {k : IntKind} {x : Int} (h : inR k x) : k.wrap x = x := by
  cases k <;> simp only [inR] at h <;> simp [IntKind.wrap, IntKind.bits, IntKind.signed] <;> omega
theorem inR_wrap (k : IntKind) (x : Int) : inR k (k.wrap x) := by
  cases k <;> simp only [inR] <;> simp [IntKind.wrap, IntKind.bits, IntKind.signed] <;> omega
theorem wrap_u8 (x : Int) : IntKind.u8.wrap x = x % 256 := by simp [IntKind.wrap, IntKind.bits, IntKind.signed]
theorem wrap_u16 (x : Int) : IntKind.u16.wrap x = x % 65536 := by simp [IntKind.wrap, IntKind.bits, IntKind.signed]
theorem wrap_u32 (x : Int) : IntKind.u32.wrap x = x % 4294967296 := by simp [IntKind.wrap, IntKind.bits, IntKind.signed]
theorem wrap_u64 (x : Int) : IntKind.u64.wrap x = x % 18446744073709551616 := by simp [IntKind.wrap, IntKind.bits, IntKind.signed]

theorem eqGuard_int (op : BinOp) (t : TypeId) (x y : Operand) (k k' : IntKind) (a b : Int) (w : World) :
    (eqGuard op t x y (.int k a) (.int k' b)).run P w = .ok () w := by unfold eqGuard; split <;> rfl
theorem bin_int {op : BinOp} {t t' ty : TypeId} {x y : Operand} {k k' : IntKind} {a b : Int} {v : Value} (hx : ev e x = some (.int k a)) (hy : ev e y = some (.int k' b))
    (hr : ∀ w, (binOp op t (.int k a) (.int k' b)).run P w = .ok v w) : Quiet P r w0 B n ds L (.binOp op t x y t') ty e v :=
  .run (by simp) fun ρ d pos af g w hρ _ _ => by
    simp only [execOp, hρ x (by simp [Op.operands]) _ hx, hρ y (by simp [Op.operands]) _ hy, Sem.run_bind, eqGuard_int, Result.andThen, hr]; rfl

section
variable {t t' ty : TypeId} {x y : Operand} {k : IntKind} {a b : Int}
theorem Quiet.add (hx : ev e x = some (.int k a)) (hy : ev e y = some (.int k b)) (h : inR k (a + b)) : Quiet P r w0 B n ds L (.binOp .add t x y t') ty e (.int k (a + b)) :=
  bin_int hx hy fun w => by simp [binOp, Op.intArith, wrap_in h]
theorem Quiet.sub (hx : ev e x = some (.int k a)) (hy : ev e y = some (.int k b)) (h : inR k (a - b)) : Quiet P r w0 B n ds L (.binOp .sub t x y t') ty e (.int k (a - b)) :=
  bin_int hx hy fun w => by simp [binOp, Op.intArith, wrap_in h]
theorem Quiet.mul (hx : ev e x = some (.int k a)) (hy : ev e y = some (.int k b)) (h : inR k (a * b)) : Quiet P r w0 B n ds L (.binOp .mul t x y t') ty e (.int k (a * b)) :=
  bin_int hx hy fun w => by simp [binOp, Op.intArith, wrap_in h]
theorem Quiet.addW (hx : ev e x = some (.int k a)) (hy : ev e y = some (.int k b)) : Quiet P r w0 B n ds L (.binOp .add t x y t') ty e (.int k (k.wrap (a + b))) :=
  bin_int hx hy fun w => by simp [binOp, Op.intArith]
theorem Quiet.subW (hx : ev e x = some (.int k a)) (hy : ev e y = some (.int k b)) : Quiet P r w0 B n ds L (.binOp .sub t x y t') ty e (.int k (k.wrap (a - b))) :=
  bin_int hx hy fun w => by simp [binOp, Op.intArith]
theorem Quiet.mulW (hx : ev e x = some (.int k a)) (hy : ev e y = some (.int k b)) : Quiet P r w0 B n ds L (.binOp .mul t x y t') ty e (.int k (k.wrap (a * b))) :=
  bin_int hx hy fun w => by simp [binOp, Op.intArith]
theorem Quiet.rem (hx : ev e x = some (.int k a)) (hy : ev e y = some (.int k b)) (h0 : 0 ≤ a) (h1 : b ≠ 0) : Quiet P r w0 B n ds L (.binOp .rem t x y t') ty e (.int k (a % b)) :=
  bin_int hx hy fun w => by
    have : a.tmod b = a % b := Int.tmod_eq_emod_of_nonneg h0
    simp [binOp, Op.intDiv, h1, this]
theorem Quiet.remT (hx : ev e x = some (.int k a)) (hy : ev e y = some (.int k b)) (h1 : b ≠ 0) : Quiet P r w0 B n ds L (.binOp .rem t x y t') ty e (.int k (a.tmod b)) :=
  bin_int hx hy fun w => by simp [binOp, Op.intDiv, h1]
theorem Quiet.quo (hx : ev e x = some (.int k a)) (hy : ev e y = some (.int k b)) (h0 : 0 ≤ a) (h1 : b ≠ 0) (h : inR k (a / b)) : Quiet P r w0 B n ds L (.binOp .quo t x y t') ty e (.int k (a / b)) :=
  bin_int hx hy fun w => by
    have : a.tdiv b = a / b := Int.tdiv_eq_ediv_of_nonneg h0
    simp [binOp, Op.intDiv, h1, this, wrap_in h]
theorem Quiet.quoT (hx : ev e x = some (.int k a)) (hy : ev e y = some (.int k b)) (h1 : b ≠ 0) : Quiet P r w0 B n ds L (.binOp .quo t x y t') ty e (.int k (k.wrap (a.tdiv b))) :=
  bin_int hx hy fun w => by simp [binOp, Op.intDiv, h1]
def bitsOp (op : BinOp) (k : IntKind) (x y : Int) : Int :=
  k.wrap (match op with
    | .and => (BitVec.ofInt k.bits x &&& BitVec.ofInt k.bits y).toNat
    | .or => (BitVec.ofInt k.bits x ||| BitVec.ofInt k.bits y).toNat
    | .xor => (BitVec.ofInt k.bits x ^^^ BitVec.ofInt k.bits y).toNat
    | _ => (BitVec.ofInt k.bits x &&& ~~~ BitVec.ofInt k.bits y).toNat)
theorem Quiet.and (hx : ev e x = some (.int k a)) (hy : ev e y = some (.int k b)) : Quiet P r w0 B n ds L (.binOp .and t x y t') ty e (.int k (bitsOp .and k a b)) :=
  bin_int hx hy fun w => by simp [binOp, Op.intBits, bitsOp]
theorem Quiet.or (hx : ev e x = some (.int k a)) (hy : ev e y = some (.int k b)) : Quiet P r w0 B n ds L (.binOp .or t x y t') ty e (.int k (bitsOp .or k a b)) :=
  bin_int hx hy fun w => by simp [binOp, Op.intBits, bitsOp]
theorem Quiet.xor (hx : ev e x = some (.int k a)) (hy : ev e y = some (.int k b)) : Quiet P r w0 B n ds L (.binOp .xor t x y t') ty e (.int k (bitsOp .xor k a b)) :=
  bin_int hx hy fun w => by simp [binOp, Op.intBits, bitsOp]
theorem Quiet.andNot (hx : ev e x = some (.int k a)) (hy : ev e y = some (.int k b)) : Quiet P r w0 B n ds L (.binOp .andNot t x y t') ty e (.int k (bitsOp .andNot k a b)) :=
  bin_int hx hy fun w => by simp [binOp, Op.intBits, bitsOp]
/-- shifts: by a count that is not negative -/
def shlOp (k : IntKind) (x y : Int) : Int := k.wrap (x * 2 ^ (min y.toNat k.bits))
def shrOp (k : IntKind) (x y : Int) : Int := x.fdiv (2 ^ (min y.toNat k.bits))
theorem Quiet.shl {k' : IntKind} (hx : ev e x = some (.int k a)) (hy : ev e y = some (.int k' b)) (h0 : 0 ≤ b) : Quiet P r w0 B n ds L (.binOp .shl t x y t') ty e (.int k (shlOp k a b)) :=
  bin_int hx hy fun w => by
    have : ¬ b < 0 := by omega
    simp [binOp, Op.shift, this, shlOp]
theorem Quiet.shr {k' : IntKind} (hx : ev e x = some (.int k a)) (hy : ev e y = some (.int k' b)) (h0 : 0 ≤ b) : Quiet P r w0 B n ds L (.binOp .shr t x y t') ty e (.int k (shrOp k a b)) :=
  bin_int hx hy fun w => by
    have : ¬ b < 0 := by omega
    simp [binOp, Op.shift, this, shrOp]
theorem Quiet.eql (hx : ev e x = some (.int k a)) (hy : ev e y = some (.int k b)) : Quiet P r w0 B n ds L (.binOp .eql t x y t') ty e (.bool (decide (a = b))) :=
  bin_int hx hy fun w => by simp [binOp, Op.intCmp]; rfl
theorem Quiet.neq (hx : ev e x = some (.int k a)) (hy : ev e y = some (.int k b)) : Quiet P r w0 B n ds L (.binOp .neq t x y t') ty e (.bool (decide (a ≠ b))) :=
  bin_int hx hy fun w => by simp [binOp, Op.intCmp, bne]; rfl
theorem Quiet.lss (hx : ev e x = some (.int k a)) (hy : ev e y = some (.int k b)) : Quiet P r w0 B n ds L (.binOp .lss t x y t') ty e (.bool (decide (a < b))) :=
  bin_int hx hy fun w => by simp [binOp, Op.intCmp]
theorem Quiet.leq (hx : ev e x = some (.int k a)) (hy : ev e y = some (.int k b)) : Quiet P r w0 B n ds L (.binOp .leq t x y t') ty e (.bool (decide (a ≤ b))) :=
  bin_int hx hy fun w => by simp [binOp, Op.intCmp]
theorem Quiet.gtr (hx : ev e x = some (.int k a)) (hy : ev e y = some (.int k b)) : Quiet P r w0 B n ds L (.binOp .gtr t x y t') ty e (.bool (decide (b < a))) :=
  bin_int hx hy fun w => by simp [binOp, Op.intCmp]
theorem Quiet.geq (hx : ev e x = some (.int k a)) (hy : ev e y = some (.int k b)) : Quiet P r w0 B n ds L (.binOp .geq t x y t') ty e (.bool (decide (b ≤ a))) :=
  bin_int hx hy fun w => by simp [binOp, Op.intCmp]
end

/-! ### Tables of the program's types -/
class Tab (P : Program) where
  und : Nat → Option TypeDesc
  inf : Nat → Option (Nat × Nat × Value)
  hund : ∀ t d, und t = some d → P.underlying t = some d
  mix : P.follows .mixedOrders = true
  hinf : ∀ t s b z, inf t = some (s, b, z) → ∃ i, P.info? t = some i ∧ i.size = s ∧ i.bytes = b ∧ i.zero = some z

variable [T : Tab P]
theorem run_und {t : TypeId} {d : TypeDesc} (h : T.und t = some d) (w : World) : (underlying t).run P w = .ok d w := by
  simp only [underlying, program, Sem.run_bind, Sem.run, Result.andThen, T.hund t d h]; rfl
theorem run_size {t : TypeId} {s b : Nat} {z : Value} (h : T.inf t = some (s, b, z)) (w : World) : (sizeOf t).run P w = .ok s w := by
  obtain ⟨i, hi, h1, h2, h3⟩ := T.hinf t s b z h
  simp only [sizeOf, typeInfo, program, Sem.run_bind, Sem.run, Result.andThen, hi]; rw [← h1]; rfl
theorem run_zero {t : TypeId} {s b : Nat} {z : Value} (h : T.inf t = some (s, b, z)) (w : World) : (zeroValue t).run P w = .ok z w := by
  obtain ⟨i, hi, h1, h2, h3⟩ := T.hinf t s b z h
  simp only [zeroValue, typeInfo, program, Sem.run_bind, Sem.run, Result.andThen, hi]; simp only [Sem.run_pure, h3]

theorem Quiet.conv {s d ty : TypeId} {x : Operand} {k k' : IntKind} {ds' : TypeDesc} {a : Int} (hx : ev e x = some (.int k a)) (hs : T.und s = some ds') (hd : T.und d = some (.int k')) (hi : inR k' a) :
    Quiet P r w0 B n ds L (.convert s d x) ty e (.int k' a) :=
  .run (by simp) fun ρ d pos af g w hρ _ _ => by
    simp [execOp, hρ x (by simp [Op.operands]) _ hx, convert, Sem.run_bind, run_und hs, run_und hd, Result.andThen, Conv.intToInt, wrap_in hi]
theorem Quiet.convW {s d ty : TypeId} {x : Operand} {k k' : IntKind} {ds' : TypeDesc} {a : Int} (hx : ev e x = some (.int k a)) (hs : T.und s = some ds') (hd : T.und d = some (.int k')) :
    Quiet P r w0 B n ds L (.convert s d x) ty e (.int k' (k'.wrap a)) :=
  .run (by simp) fun ρ d pos af g w hρ _ _ => by
    simp [execOp, hρ x (by simp [Op.operands]) _ hx, convert, Sem.run_bind, run_und hs, run_und hd, Result.andThen, Conv.intToInt]
theorem Quiet.convS {s d ty : TypeId} {x : Operand} {a : ByteArray} (hx : ev e x = some (.string a)) (hs : T.und s = some .string) (hd : T.und d = some .string) :
    Quiet P r w0 B n ds L (.convert s d x) ty e (.string a) :=
  .run (by simp) fun ρ d pos af g w hρ _ _ => by
    simp [execOp, hρ x (by simp [Op.operands]) _ hx, convert, Sem.run_bind, run_und hs, run_und hd, Result.andThen]

/-! ### Truth values -/
omit T in
theorem Quiet.not {x : Operand} {ty t : TypeId} {b : Bool} (hx : ev e x = some (.bool b)) : Quiet P r w0 B n ds L (.unOp .not t x) ty e (.bool (!b)) :=
  .run (by simp) fun ρ d pos af g w hρ _ _ => by
    simp [execOp, hρ x (by simp [Op.operands]) _ hx, Op.unary]

omit T in
theorem run_equal {t : TypeId} {x y : Value} {b : Bool} {w : World} (h : ∀ d, (Op.equalIn (d + 1) t x y).run P w = .ok b w) : (Op.equal t x y).run P w = .ok b w := h 9999
theorem eqB_run {t : TypeId} (ht : T.und t = some .bool) (a b : Bool) (w : World) : (Op.equal t (.bool a) (.bool b)).run P w = .ok (a == b) w :=
  run_equal (fun d => by simp only [Op.equalIn, Sem.run_bind, run_und ht, Result.andThen]; rfl)
omit T in
/-- Two values of which 'equal' is known. -/
theorem Quiet.eqV {x y : Operand} {ty t t' : TypeId} {u v : Value} {b : Bool} (hx : ev e x = some u) (hy : ev e y = some v)
    (hg : ∀ w, (eqGuard .eql t x y u v).run P w = .ok () w) (hb : ∀ w, (binOp .eql t u v).run P w = .ok (.bool b) w) :
    Quiet P r w0 B n ds L (.binOp .eql t x y t') ty e (.bool b) :=
  .run (by simp) fun ρ d pos af g w hρ _ _ => by
    simp only [execOp, hρ x (by simp [Op.operands]) _ hx, hρ y (by simp [Op.operands]) _ hy, Sem.run_bind, hg, hb, Result.andThen]; rfl
omit T in
theorem Quiet.neV {x y : Operand} {ty t t' : TypeId} {u v : Value} {b : Bool} (hx : ev e x = some u) (hy : ev e y = some v)
    (hg : ∀ w, (eqGuard .neq t x y u v).run P w = .ok () w) (hb : ∀ w, (binOp .neq t u v).run P w = .ok (.bool b) w) :
    Quiet P r w0 B n ds L (.binOp .neq t x y t') ty e (.bool b) :=
  .run (by simp) fun ρ d pos af g w hρ _ _ => by
    simp only [execOp, hρ x (by simp [Op.operands]) _ hx, hρ y (by simp [Op.operands]) _ hy, Sem.run_bind, hg, hb, Result.andThen]; rfl
theorem Quiet.eqlB {x y : Operand} {ty t t' : TypeId} {a b : Bool} (hx : ev e x = some (.bool a)) (hy : ev e y = some (.bool b)) (ht : T.und t = some .bool) :
    Quiet P r w0 B n ds L (.binOp .eql t x y t') ty e (.bool (a == b)) :=
  .eqV hx hy (fun _ => rfl) fun w => by
    show ((Op.equal t (.bool a) (.bool b) >>= fun b => pure (.bool b) : Sem Value)).run P w = _
    rw [Sem.run_bind, eqB_run ht]; rfl
theorem Quiet.neqB {x y : Operand} {ty t t' : TypeId} {a b : Bool} (hx : ev e x = some (.bool a)) (hy : ev e y = some (.bool b)) (ht : T.und t = some .bool) :
    Quiet P r w0 B n ds L (.binOp .neq t x y t') ty e (.bool (!(a == b))) :=
  .neV hx hy (fun _ => rfl) fun w => by
    show ((Op.equal t (.bool a) (.bool b) >>= fun b => pure (.bool !b) : Sem Value)).run P w = _
    rw [Sem.run_bind, eqB_run ht]; rfl

/-! ### Addresses: nil or not -/
theorem eqP_run {t el : TypeId} (ht : T.und t = some (.pointer el)) (a : Option Addr) (w : World) : (Op.equal t (.pointer a) (.pointer none)).run P w = .ok a.isNone w :=
  run_equal (fun d => by cases a <;> (simp only [Op.equalIn, Sem.run_bind, run_und ht, Result.andThen]; rfl))
theorem eqP_run' {t el : TypeId} (ht : T.und t = some (.pointer el)) (a : Option Addr) (w : World) : (Op.equal t (.pointer none) (.pointer a)).run P w = .ok a.isNone w :=
  run_equal (fun d => by cases a <;> (simp only [Op.equalIn, Sem.run_bind, run_und ht, Result.andThen]; rfl))
theorem Quiet.eqNil {x y : Operand} {ty t t' el : TypeId} {a : Option Addr} (hx : ev e x = some (.pointer a)) (hy : ev e y = some (.pointer none)) (ht : T.und t = some (.pointer el)) :
    Quiet P r w0 B n ds L (.binOp .eql t x y t') ty e (.bool a.isNone) :=
  .eqV hx hy (fun _ => rfl) fun w => by
    show ((Op.equal t (.pointer a) (.pointer none) >>= fun b => pure (.bool b) : Sem Value)).run P w = _
    rw [Sem.run_bind, eqP_run ht]; rfl
theorem Quiet.neNil {x y : Operand} {ty t t' el : TypeId} {a : Option Addr} (hx : ev e x = some (.pointer a)) (hy : ev e y = some (.pointer none)) (ht : T.und t = some (.pointer el)) :
    Quiet P r w0 B n ds L (.binOp .neq t x y t') ty e (.bool (!a.isNone)) :=
  .neV hx hy (fun _ => rfl) fun w => by
    show ((Op.equal t (.pointer a) (.pointer none) >>= fun b => pure (.bool !b) : Sem Value)).run P w = _
    rw [Sem.run_bind, eqP_run ht]; rfl
/-- a function value against nil -/
theorem eqF_run {t : TypeId} {ps rs : Array TypeId} {vd : Bool} (ht : T.und t = some (.func ps rs vd)) (fn : Fn) (f c : Array Value) (w : World) :
    (Op.equal t (.func fn f c) .nilFunc).run P w = .ok false w :=
  run_equal (fun d => by simp only [Op.equalIn, Sem.run_bind, run_und ht, Result.andThen]; rfl)
theorem Quiet.eqNilF {x y : Operand} {ty t t' : TypeId} {fn : Fn} {f c : Array Value} {ps rs : Array TypeId} {vd : Bool} (hx : ev e x = some (.func fn f c)) (hy : ev e y = some .nilFunc) (ht : T.und t = some (.func ps rs vd)) :
    Quiet P r w0 B n ds L (.binOp .eql t x y t') ty e (.bool false) :=
  .eqV hx hy (fun _ => rfl) fun w => by
    show ((Op.equal t (.func fn f c) .nilFunc >>= fun b => pure (.bool b) : Sem Value)).run P w = _
    rw [Sem.run_bind, eqF_run ht]; rfl
theorem Quiet.neNilF {x y : Operand} {ty t t' : TypeId} {fn : Fn} {f c : Array Value} {ps rs : Array TypeId} {vd : Bool} (hx : ev e x = some (.func fn f c)) (hy : ev e y = some .nilFunc) (ht : T.und t = some (.func ps rs vd)) :
    Quiet P r w0 B n ds L (.binOp .neq t x y t') ty e (.bool true) :=
  .neV hx hy (fun _ => rfl) fun w => by
    show ((Op.equal t (.func fn f c) .nilFunc >>= fun b => pure (.bool !b) : Sem Value)).run P w = _
    rw [Sem.run_bind, eqF_run ht]; rfl

/-! ### Strings: lists of bytes -/
abbrev str (l : List UInt8) : Value := .string ⟨⟨l⟩⟩
theorem str_eta (s : ByteArray) : Value.string s = str s.data.toList := rfl
omit T in
theorem bin_str {op : BinOp} {t t' ty : TypeId} {x y : Operand} {a b : List UInt8} {v : Value} (hx : ev e x = some (str a)) (hy : ev e y = some (str b))
    (hr : ∀ w, (binOp op t (str a) (str b)).run P w = .ok v w) : Quiet P r w0 B n ds L (.binOp op t x y t') ty e v :=
  .run (by simp) fun ρ d pos af g w hρ _ _ => by
    have hg : (eqGuard op t x y (str a) (str b)).run P w = .ok () w := by unfold eqGuard; split <;> rfl
    simp only [execOp, hρ x (by simp [Op.operands]) _ hx, hρ y (by simp [Op.operands]) _ hy, Sem.run_bind, hg, Result.andThen, hr]; rfl
omit T in
theorem toList_str (l : List UInt8) : (⟨⟨l⟩⟩ : ByteArray).toList = l := ByteArray.toList_eq _
omit T in
theorem size_str (l : List UInt8) : (⟨⟨l⟩⟩ : ByteArray).size = l.length := rfl
omit T in
theorem Quiet.eqS {t t' ty : TypeId} {x y : Operand} {a b : List UInt8} (hx : ev e x = some (str a)) (hy : ev e y = some (str b)) :
    Quiet P r w0 B n ds L (.binOp .eql t x y t') ty e (.bool (decide (a = b))) :=
  bin_str hx hy fun w => by simp only [binOp, Op.stringOp, toList_str]; rw [show (a == b) = decide (a = b) from by by_cases h : a = b <;> simp [h]]; rfl
omit T in
theorem Quiet.neS {t t' ty : TypeId} {x y : Operand} {a b : List UInt8} (hx : ev e x = some (str a)) (hy : ev e y = some (str b)) :
    Quiet P r w0 B n ds L (.binOp .neq t x y t') ty e (.bool (decide (a ≠ b))) :=
  bin_str hx hy fun w => by simp only [binOp, Op.stringOp, toList_str]; rw [show (!(a == b)) = decide (a ≠ b) from by by_cases h : a = b <;> simp [h]]; rfl
omit T in
theorem Quiet.cat {t t' ty : TypeId} {x y : Operand} {a b : List UInt8} (hx : ev e x = some (str a)) (hy : ev e y = some (str b)) (h : a.length + b.length ≤ 9223372036854775807) :
    Quiet P r w0 B n ds L (.binOp .add t x y t') ty e (str (a ++ b)) :=
  bin_str hx hy fun w => by
    simp only [binOp, Op.stringOp, size_str]
    rw [if_neg (by simp only [IntKind.max]; simp [IntKind.signed, IntKind.bits]; omega)]
    have : (⟨⟨a⟩⟩ : ByteArray) ++ ⟨⟨b⟩⟩ = ⟨⟨a ++ b⟩⟩ := by
      apply ByteArray.ext; simp [ByteArray.data_append]
    rw [this]; rfl
omit T in
theorem Quiet.idxS {t ty : TypeId} {x i : Operand} {k : IntKind} {a : List UInt8} {j : Nat} {c : UInt8} (hx : ev e x = some (str a)) (hi : ev e i = some (.int k (j : Int))) [T : Tab P] (ht : T.und t = some .string)
    (hc : a[j]? = some c) : Quiet P r w0 B n ds L (.index t x i) ty e (.int .u8 (c.toNat : Int)) :=
  .run (by simp) fun ρ d pos af g w hρ _ _ => by
    simp only [execOp, hρ x (by simp [Op.operands]) _ hx, hρ i (by simp [Op.operands]) _ hi, Instr.index, asIntOf, Sem.run_bind, Sem.run_pure, Result.andThen, run_und ht]
    have h1 : (0 : Int) ≤ (j : Int) := Int.natCast_nonneg j
    have h2 : (⟨⟨a⟩⟩ : ByteArray)[j]? = some c := by
      have hlt : j < a.length := (List.getElem?_eq_some_iff.1 hc).1
      have hg : a[j] = c := (List.getElem?_eq_some_iff.1 hc).2
      rw [getElem?_pos (⟨⟨a⟩⟩ : ByteArray) j hlt, ← hg]; rfl
    simp only [h1, if_true, Int.toNat_natCast, h2]; rfl

/-! ### Calls of builtins -/
omit T in
theorem map_evs {ρ : Operand → Value} : ∀ {xs : List Operand} {vs : List Value}, evs e xs = some vs → (∀ x ∈ xs, ∀ u, ev e x = some u → ρ x = u) → xs.map ρ = vs := by
  intro xs
  induction xs with
  | nil => intro vs hv _; simpa [evs] using hv
  | cons x xs ih =>
    intro vs hv hρ
    simp only [evs] at hv
    cases hx : ev e x with
    | none => rw [hx] at hv; cases hv
    | some v =>
      rw [hx] at hv
      cases hxs : evs e xs with
      | none => rw [hxs] at hv; cases hv
      | some us =>
        rw [hxs] at hv; cases hv
        simp [hρ x (by simp) v hx, ih hxs (fun y hy => hρ y (by simp [hy]))]
omit T in
theorem Quiet.blt {b : Builtin} {args : Array Operand} {tys : Array TypeId} {ty : TypeId} {vs : List Value} {v : Value} (ha : evs e args.toList = some vs)
    (hb : ∀ consts w, (builtin b tys ty consts vs.toArray).run P w = .ok (.value v) w) : Quiet P r w0 B n ds L (.call ⟨.builtin b, args, tys⟩) ty e v :=
  .run (by simp) fun ρ d pos af g w hρ _ _ => by
    have e1 : args.map ρ = vs.toArray := by
      rw [← Array.toList_inj]; simp only [Array.toList_map]; exact map_evs ha (fun x hx => hρ x (by simp [Op.operands, Call.operands]; simpa using hx))
    simp only [execOp, resolve, e1, Sem.run_bind, Sem.run_pure, Result.andThen, invoke, hb]
omit T in
theorem blt_run {b : Builtin} {tys : Array TypeId} {ty : TypeId} {consts : Array Bool} {args : Array Value} {v : Value} {w w' : World} {s : Sem Value}
    (hb : builtin b tys ty consts args = (do pure (.value (← s)))) (h : s.run P w = .ok v w') : (builtin b tys ty consts args).run P w = .ok (.value v) w' := by
  rw [hb, Sem.run_bind, h]; rfl
theorem Quiet.lenS {x : Operand} {ty t : TypeId} {a : List UInt8} (hx : ev e x = some (str a)) (ht : T.und t = some .string) :
    Quiet P r w0 B n ds L (.call ⟨.builtin .len, #[x], #[t]⟩) ty e (.int .i64 (a.length : Int)) :=
  .blt (vs := [str a]) (by simp only [evs, hx]) fun consts w => blt_run rfl (by
    simp [Builtin.len_, Sem.run_bind, run_und ht, Result.andThen, goInt, size_str])
theorem Quiet.lenL {x : Operand} {ty t el : TypeId} {a : Option Addr} {m c : Nat} (hx : ev e x = some (.slice a m c)) (ht : T.und t = some (.slice el)) :
    Quiet P r w0 B n ds L (.call ⟨.builtin .len, #[x], #[t]⟩) ty e (.int .i64 (m : Int)) :=
  .blt (vs := [.slice a m c]) (by simp only [evs, hx]) fun consts w => blt_run rfl (by
    simp [Builtin.len_, Sem.run_bind, run_und ht, Result.andThen, goInt])
theorem Quiet.lenA {x : Operand} {ty t el : TypeId} {m : Nat} {v : Value} (hx : ev e x = some v) (ht : T.und t = some (.array m el)) :
    Quiet P r w0 B n ds L (.call ⟨.builtin .len, #[x], #[t]⟩) ty e (.int .i64 (m : Int)) :=
  .blt (vs := [v]) (by simp only [evs, hx]) fun consts w => blt_run rfl (by
    simp [Builtin.len_, Sem.run_bind, run_und ht, Result.andThen, goInt])
omit T in
theorem Quiet.max2 {x y : Operand} {ty t t' : TypeId} {k k' : IntKind} {a b : Int} (hx : ev e x = some (.int k a)) (hy : ev e y = some (.int k' b)) :
    Quiet P r w0 B n ds L (.call ⟨.builtin .max, #[x, y], #[t, t']⟩) ty e (.int k (if a < b then b else a)) :=
  .blt (vs := [.int k a, .int k' b]) (by simp only [evs, hx, hy]) fun consts w => blt_run rfl (by simp [Builtin.max_, Builtin.max2])
omit T in
theorem Quiet.min2 {x y : Operand} {ty t t' : TypeId} {k k' : IntKind} {a b : Int} (hx : ev e x = some (.int k a)) (hy : ev e y = some (.int k' b)) :
    Quiet P r w0 B n ds L (.call ⟨.builtin .min, #[x, y], #[t, t']⟩) ty e (.int k (if b < a then b else a)) :=
  .blt (vs := [.int k a, .int k' b]) (by simp only [evs, hx, hy]) fun consts w => blt_run rfl (by simp [Builtin.min_, Builtin.min2])

/-! ### Cutting strings -/
omit T in
theorem run_bound {k : IntKind} {i m : Nat} (h : i ≤ m) (code : BoundsCode) (w : World) : (Instr.sliceBound (.int k (i : Int)) m code).run P w = .ok i w := by
  simp [Instr.sliceBound, asIntOf, h]
theorem extract_str (a : List UInt8) (l h : Nat) : (⟨⟨a⟩⟩ : ByteArray).extract l h = ⟨⟨(a.take h).drop l⟩⟩ := by
  apply ByteArray.ext
  rw [ByteArray.data_extract]
  apply Array.ext'
  simp [List.extract_eq_take_drop, List.drop_take]
/-- what a bound of a cut is: nothing, or a number -/
def bound (e : Env) : Option Operand → Option (Option Nat)
  | none => some none
  | some x => match ev e x with
    | some (.int _ i) => if 0 ≤ i then some (some i.toNat) else none
    | _ => none
theorem Quiet.cutS {t ty : TypeId} {x lo hi : Operand} {k k' : IntKind} {a : List UInt8} {l h : Nat} (hx : ev e x = some (str a)) (hl : ev e lo = some (.int k (l : Int))) (hh : ev e hi = some (.int k' (h : Int)))
    (ht : T.und t = some .string) (h1 : l ≤ h) (h2 : h ≤ a.length) : Quiet P r w0 B n ds L (.slice t x (some lo) (some hi) none) ty e (str ((a.take h).drop l)) :=
  .run (by simp) fun ρ d pos af g w hρ _ _ => by
    simp only [execOp, hρ x (by simp [Op.operands]) _ hx, hρ lo (by simp [Op.operands]) _ hl, hρ hi (by simp [Op.operands]) _ hh, Option.map, Instr.sliceAt, Sem.run_bind, run_und ht, Result.andThen, Instr.slice,
      Instr.sliceBounds, size_str, Sem.run_pure]
    simp only [Option.isSome, Sem.run_bind, Sem.run_pure, run_bound h2, run_bound h1, Result.andThen, Bool.false_eq_true, if_false, extract_str]
theorem Quiet.cutSl {t ty : TypeId} {x lo : Operand} {k : IntKind} {a : List UInt8} {l : Nat} (hx : ev e x = some (str a)) (hl : ev e lo = some (.int k (l : Int)))
    (ht : T.und t = some .string) (h1 : l ≤ a.length) : Quiet P r w0 B n ds L (.slice t x (some lo) none none) ty e (str (a.drop l)) :=
  .run (by simp) fun ρ d pos af g w hρ _ _ => by
    simp only [execOp, hρ x (by simp [Op.operands]) _ hx, hρ lo (by simp [Op.operands]) _ hl, Option.map, Instr.sliceAt, Sem.run_bind, run_und ht, Result.andThen, Instr.slice,
      Instr.sliceBounds, size_str, Sem.run_pure]
    simp only [Option.isSome, Sem.run_bind, Sem.run_pure, run_bound h1, Result.andThen, Bool.false_eq_true, if_false, extract_str]
    simp
theorem Quiet.cutSh {t ty : TypeId} {x hi : Operand} {k : IntKind} {a : List UInt8} {h : Nat} (hx : ev e x = some (str a)) (hh : ev e hi = some (.int k (h : Int)))
    (ht : T.und t = some .string) (h1 : h ≤ a.length) : Quiet P r w0 B n ds L (.slice t x none (some hi) none) ty e (str (a.take h)) :=
  .run (by simp) fun ρ d pos af g w hρ _ _ => by
    simp only [execOp, hρ x (by simp [Op.operands]) _ hx, hρ hi (by simp [Op.operands]) _ hh, Option.map, Instr.sliceAt, Sem.run_bind, run_und ht, Result.andThen, Instr.slice,
      Instr.sliceBounds, size_str, Sem.run_pure]
    simp only [Option.isSome, Sem.run_bind, Sem.run_pure, run_bound h1, Result.andThen, Bool.false_eq_true, if_false, extract_str]
    simp

end
end Go.X
