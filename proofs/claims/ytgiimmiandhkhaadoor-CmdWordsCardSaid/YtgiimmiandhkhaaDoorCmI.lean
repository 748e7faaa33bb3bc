/- The commands: the document's way: with, take. Printed by gen-cmi.py. -/
import Derived.Test.YtgiimmiandhkhaaDoorProg
import Derived.Test.YtgiimmiandhkhaaDoorCmH
import Derived.Test.YtgiimmiandhkhaaDoorCmN
import Derived.Test.YtgiimmiandhkhaaDoorBoI
import Derived.Lib.ConvBytes
namespace Go.Proofs.YtgiimmiandhkhaaDoor
open Go.RowKit
set_option linter.unusedSimpArgs false
set_option linter.unusedVariables false

theorem bytes_frozen (w : World) (e : TypeId) (s : ByteArray) (j : Nat) (hj : j < s.size) : (Lib.bytesWorld w e s).frozen? ⟨w.heap.size, j, none⟩ = false := by
  simp only [World.frozen?, Lib.bytesWorld_at_new]
  have : s.size ≤ (Lib.bytesCells w e s).size := by simp [Lib.bytesCells]
  simp
  omega
theorem takeVb (c : Cm) (w : List UInt8) : takeV c 98 w = (if (parseV (comma w)).2 = 0 then some { c with body := (parseV (comma w)).1 } else none) := by simp [takeV]
theorem takeVl (c : Cm) (w : List UInt8) : takeV c 108 w = (numV w 4).map (fun (v : Nat) => { c with preds := c.preds ++ [(v : Int)] }) := by simp [takeV]
theorem takeVt (c : Cm) (w : List UInt8) : takeV c 116 w = (numV w 4).map (fun (v : Nat) => { c with t := (v : Int) }) := by simp [takeV]
theorem takeVp (c : Cm) (w : List UInt8) : takeV c 112 w = (numV w 4).map (fun (v : Nat) => { c with p := (v : Int) }) := by simp [takeV]
theorem takeVi (c : Cm) (w : List UInt8) : takeV c 105 w = (numV w 4).map (fun (v : Nat) => { c with i := (v : Int) }) := by simp [takeV]
theorem takeVn (c : Cm) (w : List UInt8) : takeV c 110 w = (numV w 18).map (fun (v : Nat) => { c with n := (v : Int) }) := by simp [takeV]
theorem takeVm (c : Cm) (w : List UInt8) : takeV c 109 w = (numV w 18).map (fun (v : Nat) => { c with m := (v : Int) }) := by simp [takeV]

end Go.Proofs.YtgiimmiandhkhaaDoor
