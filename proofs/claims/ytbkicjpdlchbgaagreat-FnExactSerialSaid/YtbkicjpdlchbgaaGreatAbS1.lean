import Derived.Test.YtbkicjpdlchbgaaGreatAbK2
import Derived.Test.YtbkicjpdlchbgaaGreatAbF4
import Derived.Shelf.Sort.Plain
import Derived.Shelf.Slices.CompactS
namespace Go.Proofs.YtbkicjpdlchbgaaGreat.Ab
open Go
set_option linter.unusedVariables false
set_option linter.unusedSimpArgs false
set_option linter.unnecessarySimpa false
set_option linter.unusedVariables false

/-! The library's functions that stand by a plain one. -/
def toS (b : ByteArray) : List UInt8 := b.data.toList
def unS (l : List UInt8) : ByteArray := ⟨l.toArray⟩
def sortS (l : List ByteArray) : List ByteArray := ((l.map toS).mergeSort fun x y => decide (x ≤ y)).map unS
def pSort (l : List ByteArray) : Option (List ByteArray) := cond (Nat.ble l.length cap40) (some (sortS l)) none
def dedS (l : List ByteArray) : List ByteArray := (Lib.compact (l.map toS)).map unS
def pCompact (l : List ByteArray) : Option (List ByteArray) := cond (Nat.ble l.length cap40) (some (dedS l)) none

def pInsert (t : Ty) (x : List t.den × Int × List t.den) : Option (List t.den) :=
  cond (decide (0 ≤ x.2.1) && decide (x.2.1 ≤ (x.1.length : Int)) && Nat.ble (x.1.length + 1) cap40 && Nat.beq x.2.2.length 1) (some (x.1.take x.2.1.toNat ++ x.2.2 ++ x.1.drop x.2.1.toNat)) none

def repB (s : ByteArray) : Nat → ByteArray
  | 0 => ⟨#[]⟩
  | n + 1 => repB s n ++ s
def pRepeat (x : ByteArray × Int) : Option ByteArray := cond (decide (0 ≤ x.2) && Nat.ble (x.1.size * x.2.toNat) 140737488355328) (some (repB x.1 x.2.toNat)) none

def theGuard : Guard := noGuard

end Go.Proofs.YtbkicjpdlchbgaaGreat.Ab
