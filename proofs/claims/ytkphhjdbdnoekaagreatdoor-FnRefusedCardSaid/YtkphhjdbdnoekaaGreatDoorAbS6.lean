import Derived.Test.YtkphhjdbdnoekaaGreatDoorAbS4
import Derived.Shelf.Strings.OnBuilder
namespace Go.Proofs.YtkphhjdbdnoekaaGreatDoor.Ab

section
open Go Go.RowKit
set_option linter.unusedVariables false
set_option linter.unusedSimpArgs false
set_option linter.unnecessarySimpa false
set_option linter.unusedVariables false
set_option linter.unusedSimpArgs false
def z6k (l:List ByteArray) (s:ByteArray):ByteArray:=⟨(Lib.join (l.map (·.data.toList)) s.data.toList).toArray⟩
def y7l (x:List ByteArray×ByteArray):Option ByteArray:=cond (Nat.ble x.1.length 140737488355328&&Nat.ble (z6k x.1 x.2).size 140737488355328) (some (z6k x.1 x.2)) none
def y3e:Sig:= {ins:= .pair (.tr false .str) .str,inout:= [],out:= .str,nres:=1}
section
variable {P:Program} {C:Cx} {H:z0a} {B:List (Option Nat)} {w w' :World}
theorem y8b {ρ:Go.Shelf.Ren} {gd:Guard} (L:Go.Proofs.Lays.n156 P ρ) (X:Go.Proofs.Builder.Extra P ρ) {x:List ByteArray×ByteArray} {y:ByteArray} (h:y7l x=some y):z1n P gd (ρ.f 156) y3e x y:=by
 unfold y7l at h;cases hb:Nat.ble x.1.length 140737488355328&&Nat.ble (z6k x.1 x.2).size 140737488355328 with
 | false=>rw[hb] at h;cases h | true=>
  rw[hb] at h;simp only[Ad,Ac] at h;subst h;simp only[Ai] at hb;have hN:=Cw hb.1;have hS:=Cw hb.2;obtain⟨xs,sep⟩:=x;have hN:xs.length<=140737488355328:=hN;have hS:(z6k xs sep).size<=140737488355328:=hS;intro C B args hgd hs hc;have hs:HS C [] B C.w0:=hs;have hc:CRs (C.N B) (C.Np B) [] B C.w0 [.sl false .str xs, .str sep] args:=hc;simp only[CRs,CR] at hc;obtain⟨v,us,rfl,hd,v2,us2,rfl,rfl,rfl⟩:=hc;have hlen:(Lib.join (xs.map (·.data.toList)) sep.data.toList).length<=140737488355328:=by
   have e:(z6k xs sep).size=(Lib.join (xs.map (·.data.toList)) sep.data.toList).length:=by simp[z6k,ByteArray.size]
   omega
  obtain⟨A,c,hv,hcap,hd⟩:=hd;injection hv with hv _
  subst hv;have fin:∀(w' :World),Below C.w0.heap.size C.w0 w' -> ∃H1 B1 ds vs u,HS C H1 B1 w' /\CRs (C.N B1) (C.Np B1) H1 B1 w' ds (vs++z0z y3e.inout [.slice A xs.length c, .string sep])/\ext false H1 y3e.out ds [] =some (z6k xs sep, [],u)/\vs.length=y3e.nres/\Value.string (z6k xs sep)=y2x vs:=fun w' hB=>by
   have hh:=hs.more (w' :=w') hB.size hB.block hB.os hB.tape hB.output;exact⟨[],B, [.str (z6k xs sep)], [.string (z6k xs sep)], [],hh,by simp[CRs,CR,z0z,y3e],rfl,rfl,rfl⟩
  rcases hd with rfl | ⟨b,o,rfl,hn,hbs,hcell⟩
  .refine Calls.mono (Go.Proofs.Any.strings_Join_none L X A c sep C.w0) ?_
   rintro e w' ⟨rfl,rfl⟩
   exact fin _ (Below.refl _ _)
  .refine Calls.mono (Go.Proofs.Any.strings_Join L X b o c xs sep C.w0 (fun j y hj=> ?_) hbs hN hcap hlen) ?_
   .obtain⟨hjl,rfl⟩:=List.getElem?_eq_some_iff.mp hj;obtain⟨us,q1,q2⟩:=hcell j hjl;have q1:us= [.string xs[j]] :=q1;have q2:=q2 0 (by decide);subst q1;have e1:(Ty.str).size=1:=rfl;rw[e1,Nat.mul_one,Df] at q2;exact q2
   .rintro e w' ⟨rfl,hB⟩
    exact fin _ hB
end
end
end Go.Proofs.YtkphhjdbdnoekaaGreatDoor.Ab
