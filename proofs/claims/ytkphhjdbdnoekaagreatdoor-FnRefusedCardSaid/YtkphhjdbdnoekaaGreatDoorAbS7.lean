import Derived.Test.YtkphhjdbdnoekaaGreatDoorAbS4
import Derived.Shelf.Strings.Repeat
namespace Go.Proofs.YtkphhjdbdnoekaaGreatDoor.Ab

section
open Go Go.RowKit
set_option linter.unusedVariables false
set_option linter.unusedSimpArgs false
set_option linter.unnecessarySimpa false
set_option linter.unusedVariables false
set_option linter.unusedSimpArgs false
def y9c (s:ByteArray) (n:Nat):ByteArray:=⟨(Lib.repeatL s.data.toList n).toArray⟩
def y9k (x:ByteArray×Int):Option ByteArray:=cond (decide (0<=x.2)&&decide (x.2<=9223372036854775807)&&Nat.ble (x.1.size*x.2.toNat) 140737488355328) (some (y9c x.1 x.2.toNat)) none
def y5d:Sig:= {ins:= .pair .str (.int .i64),inout:= [],out:= .str,nres:=1}
section
variable {P:Program} {C:Cx} {H:z0a} {B:List (Option Nat)} {w w' :World}
theorem y8r {ρ:Go.Shelf.Ren} {gd:Guard} (L:Go.Proofs.Lays.n105 P ρ) (X:Go.Proofs.Builder.Extra P ρ) {x:ByteArray×Int} {y:ByteArray} (h:y9k x=some y):z1n P gd (ρ.f 105) y5d x y:=by
 unfold y9k at h;cases hb:decide (0<=x.2)&&decide (x.2<=9223372036854775807)&&Nat.ble (x.1.size*x.2.toNat) 140737488355328 with
 | false=>rw[hb] at h;cases h | true=>
  rw[hb] at h;simp only[Ad,Ac] at h;subst h;simp only[Ai,Ar] at hb;have hS:=Cw hb.2;obtain⟨⟨h0,h1⟩,_⟩:=hb;obtain⟨s,n⟩:=x;obtain⟨m,rfl⟩:∃m:Nat,n=(m:Int):=⟨n.toNat,by have h0:(0:Int)<=n:=h0;omega⟩;have h1:(m:Int)<=9223372036854775807:=h1;have hS:s.size*m<=140737488355328:=hS;intro C B args hgd hs hc;have hs:HS C [] B C.w0:=hs;have hc:CRs (C.N B) (C.Np B) [] B C.w0 [.str s, .int .i64 m] args:=hc;simp only[CRs,CR] at hc;obtain⟨v,us,rfl,rfl,v2,us2,rfl,rfl,rfl⟩:=hc;refine Calls.mono (Go.Proofs.Any.strings_Repeat L X s m C.w0 (by omega) hS) ?_
  rintro e w' ⟨rfl,hB⟩
  have hh:=hs.more (w' :=w') hB.size hB.block hB.os hB.tape hB.output;exact⟨[],B, [.str (y9c s m)], [.string (y9c s m)], [],hh,by simp[CRs,CR,z0z,y5d],rfl,rfl,rfl⟩
end
end
end Go.Proofs.YtkphhjdbdnoekaaGreatDoor.Ab
