/-
  The marks of slices of ints, bytes, strings.
-/
import Derived.Test.YtjdoofekohjjlaaMarks
import Derived.Test.YtjdoofekohjjlaaSlices
namespace Go.Proofs.Ytjdoofekohjjlaa
open Go.RowKit

def cnt1 {α : Type} (_ : α) : Nat := 1

theorem byte_mark (q : Nat) : ((UInt8.ofNat q).toNat : Int) = (q : Int) % 256 := by simp

def mkInt (k : Nat) (_ : Int) : Int := (k : Int)

def mkByte (k : Nat) (_ : UInt8) : UInt8 := UInt8.ofNat k

def mkStr (k : Nat) (_ : ByteArray) : ByteArray := markT k

end Go.Proofs.Ytjdoofekohjjlaa
