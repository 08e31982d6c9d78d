import Derived.Test.YtdeadnnhblaflaaGreatDoorAbK2
import Derived.Test.YtdeadnnhblaflaaGreatDoorAbF4
import Derived.Shelf.Sort.Plain
import Derived.Shelf.Slices.CompactS
namespace Go.Proofs.YtdeadnnhblaflaaGreatDoor.Ab
open Go
set_option linter.unusedVariables false
set_option linter.unusedSimpArgs false
set_option linter.unnecessarySimpa false
section
def toS (b:ByteArray):List UInt8:=b.data.toList
def unS (l:List UInt8):ByteArray:=⟨l.toArray⟩
def y4d (l:List ByteArray):List ByteArray:=((l.map toS).mergeSort fun x y=>decide (x≤y)).map unS
def y6y (l:List ByteArray):Option (List ByteArray):=cond (Nat.ble l.length z8x) (some (y4d l)) none
def y6o (l:List ByteArray):List ByteArray:=(Lib.compact (l.map toS)).map unS
def y0i (l:List ByteArray):Option (List ByteArray):=cond (Nat.ble l.length z8x) (some (y6o l)) none
def y8j (t:Ty) (x:List t.den×Int×List t.den):Option (List t.den):=
 cond (decide (0≤x.2.1)&&decide (x.2.1≤(x.1.length:Int))&&Nat.ble (x.1.length+1) z8x&&Nat.beq x.2.2.length 1) (some (x.1.take x.2.1.toNat++x.2.2++x.1.drop x.2.1.toNat)) none
def y8u (s:ByteArray):Nat→ByteArray
 | 0=>⟨#[]⟩
 | n+1=>y8u s n++s
def y8k (x:ByteArray×Int):Option ByteArray:=cond (decide (0≤x.2)&&Nat.ble (x.1.size*x.2.toNat) 140737488355328) (some (y8u x.1 x.2.toNat)) none
def y8a:Guard:=z7g
end
end Go.Proofs.YtdeadnnhblaflaaGreatDoor.Ab
