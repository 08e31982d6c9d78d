import Derived.Test.YtkphhjdbdnoekaaGreatAbK2
import Derived.Test.YtkphhjdbdnoekaaGreatAbF4
import Derived.Shelf.Sort.Plain
import Derived.Shelf.Slices.CompactS
namespace Go.Proofs.YtkphhjdbdnoekaaGreat.Ab
open Go
set_option linter.unusedVariables false
set_option linter.unusedSimpArgs false
set_option linter.unnecessarySimpa false
def toS (b:ByteArray):List UInt8:=b.data.toList
def unS (l:List UInt8):ByteArray:=⟨l.toArray⟩
def y4g (l:List ByteArray):List ByteArray:=((l.map toS).mergeSort fun x y=>decide (x<=y)).map unS
def y6w (l:List ByteArray):Option (List ByteArray):=cond (Nat.ble l.length z7v) (some (y4g l)) none
def y6p (l:List ByteArray):List ByteArray:=(Lib.compact (l.map toS)).map unS
def y0l (l:List ByteArray):Option (List ByteArray):=cond (Nat.ble l.length z7v) (some (y6p l)) none
def y2p (t:Ty) (x:List t.den×Int×List t.den):Option (List t.den):=
 cond (decide (0<=x.2.1)&&decide (x.2.1<=(x.1.length:Int))&&Nat.ble (x.1.length+1) z7v&&Nat.beq x.2.2.length 1) (some (x.1.take x.2.1.toNat++x.2.2++x.1.drop x.2.1.toNat)) none
def y8n (s:ByteArray):Nat->ByteArray
 | 0=>⟨#[]⟩ | n+1=>y8n s n++s
def y7w:Guard:=z7i
end Go.Proofs.YtkphhjdbdnoekaaGreat.Ab
