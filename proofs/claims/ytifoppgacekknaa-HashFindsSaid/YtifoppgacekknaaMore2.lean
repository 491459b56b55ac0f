/- Further entries. -/
import Derived.Test.YtifoppgacekknaaMore
namespace Go.X
open Go
section
variable {P : Program} {r : Option Nat} {w0 : World} {B : List Nat} {n : Nat} {Q : Post} {e : Env} {ds : List Deferred} {L : Heap}
/-- nothing, as an entry -/
theorem Sit.addG0 {a : Act} {w : World} (h : Sit w0 B n e ds L a w) : Sit w0 B n e ds (grp [] :: L) a w :=
  ⟨h.sz, h.df, h.env, ⟨fun x hx => by
    rcases List.mem_cons.1 hx with rfl | hx
    · exact ⟨fun _ _ => Owns.nil _, fun b hb => by cases hb⟩
    · exact h.own.ok x hx, h.own.nd⟩, h.kept, h.wr⟩
theorem XC.addG0 {c : Code} (h : XC P r w0 B n c Q e ds (grp [] :: L)) : XC P r w0 B n c Q e ds L := ⟨fun a w hs => h.run a w hs.addG0⟩
theorem XL.addG0 {ops : Array Oper} {l : List Oper} (h : XL P r w0 B n ops l Q e ds (grp [] :: L)) : XL P r w0 B n ops l Q e ds L := ⟨fun a w hs => h.run a w hs.addG0⟩
theorem XE.addG0 {ex : Exit} (h : XE w0 B n ex Q e ds (grp [] :: L)) : XE w0 B n ex Q e ds L := ⟨fun a w hs => h.run a w hs.addG0⟩
end
end Go.X
