import Derived.Test.YtkphhjdbdnoekaaGreatDoorAbK2
import Derived.Test.YtkphhjdbdnoekaaGreatDoorAbF4
import Derived.Shelf.Sort.Plain
import Derived.Shelf.Slices.CompactS
namespace Go.Proofs.YtkphhjdbdnoekaaGreatDoor.Ab
open Go
set_option linter.unusedVariables false
set_option linter.unusedSimpArgs false
set_option linter.unnecessarySimpa false
def toS (b:ByteArray):List UInt8:=b.data.toList
def unS (l:List UInt8):ByteArray:=⟨l.toArray⟩
def y4n (l:List ByteArray):List ByteArray:=((l.map toS).mergeSort fun x y=>decide (x<=y)).map unS
def y7m (l:List ByteArray):Option (List ByteArray):=cond (Nat.ble l.length z7z) (some (y4n l)) none
def y7b (l:List ByteArray):List ByteArray:=(Lib.compact (l.map toS)).map unS
def y0p (l:List ByteArray):Option (List ByteArray):=cond (Nat.ble l.length z7z) (some (y7b l)) none
def y2u (t:Ty) (x:List t.den×Int×List t.den):Option (List t.den):=
 cond (decide (0<=x.2.1)&&decide (x.2.1<=(x.1.length:Int))&&Nat.ble (x.1.length+1) z7z&&Nat.beq x.2.2.length 1) (some (x.1.take x.2.1.toNat++x.2.2++x.1.drop x.2.1.toNat)) none
def y9l (s:ByteArray):Nat->ByteArray
 | 0=>⟨#[]⟩ | n+1=>y9l s n++s
def y8z (x:ByteArray×Int):Option ByteArray:=cond (decide (0<=x.2)&&Nat.ble (x.1.size*x.2.toNat) 140737488355328) (some (y9l x.1 x.2.toNat)) none
def y8p:Guard:=z7l
end Go.Proofs.YtkphhjdbdnoekaaGreatDoor.Ab
