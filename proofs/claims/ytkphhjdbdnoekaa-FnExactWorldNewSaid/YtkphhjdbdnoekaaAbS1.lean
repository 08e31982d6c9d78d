import Derived.Test.YtkphhjdbdnoekaaAbK2
import Derived.Test.YtkphhjdbdnoekaaAbF4
import Derived.Shelf.Sort.Plain
import Derived.Shelf.Slices.CompactS
namespace Go.Proofs.Ytkphhjdbdnoekaa.Ab
open Go
set_option linter.unusedVariables false
set_option linter.unusedSimpArgs false
set_option linter.unnecessarySimpa false
section
def toS (b:ByteArray):List UInt8:=b.data.toList
def unS (l:List UInt8):ByteArray:=⟨l.toArray⟩
def y4b (l:List ByteArray):List ByteArray:=((l.map toS).mergeSort fun x y=>decide (x≤y)).map unS
def y6w (l:List ByteArray):Option (List ByteArray):=cond (Nat.ble l.length z8v) (some (y4b l)) none
def y6m (l:List ByteArray):List ByteArray:=(Lib.compact (l.map toS)).map unS
def y0f (l:List ByteArray):Option (List ByteArray):=cond (Nat.ble l.length z8v) (some (y6m l)) none
def y8i (t:Ty) (x:List t.den×Int×List t.den):Option (List t.den):=
 cond (decide (0≤x.2.1)&&decide (x.2.1≤(x.1.length:Int))&&Nat.ble (x.1.length+1) z8v&&Nat.beq x.2.2.length 1) (some (x.1.take x.2.1.toNat++x.2.2++x.1.drop x.2.1.toNat)) none
def y8v (s:ByteArray):Nat→ByteArray
 | 0=>⟨#[]⟩
 | n+1=>y8v s n++s
def y8j (x:ByteArray×Int):Option ByteArray:=cond (decide (0≤x.2)&&Nat.ble (x.1.size*x.2.toNat) 140737488355328) (some (y8v x.1 x.2.toNat)) none
def y7y:Guard:=z7e
end
end Go.Proofs.Ytkphhjdbdnoekaa.Ab
