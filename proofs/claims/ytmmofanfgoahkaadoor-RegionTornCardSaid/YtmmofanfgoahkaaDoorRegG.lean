/- Package region: Read (what it tells, of the bytes of the blocks). -/
import Derived.Test.YtmmofanfgoahkaaDoorRegF
namespace Go.X
open Go Go.Proofs
structure Rs where
  gen : Nat
  groups : List (List UInt8)
  group : List UInt8
  going : Bool
def rs0 : Rs := ⟨0, [], [], true⟩
/-- a block is read -/
def rstep (st : Rs) (p : Nat × List UInt8) : Rs :=
  if p.1 = 0 then { st with gen := hdr p.2 }
  else if (st.going && (pce p.1 p.2).2.2) = false then { st with going := false }
  else if (pce p.1 p.2).2.1 = true then { st with groups := st.groups ++ [st.group ++ (pce p.1 p.2).1], group := [] }
  else { st with group := st.group ++ (pce p.1 p.2).1 }
def rtell (l : List (Nat × List UInt8)) : Rs := l.foldl rstep rs0
theorem rtell_snoc (l : List (Nat × List UInt8)) (p : Nat × List UInt8) : rtell (l ++ [p]) = rstep (rtell l) p := by simp [rtell]
end Go.X
