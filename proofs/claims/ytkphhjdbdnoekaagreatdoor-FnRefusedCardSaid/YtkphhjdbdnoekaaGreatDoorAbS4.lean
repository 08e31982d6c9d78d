import Derived.Test.YtkphhjdbdnoekaaGreatDoorAbS2
import Derived.Test.YtkphhjdbdnoekaaGreatDoorAbE6
import Derived.Shelf.Strconv.Itoa3
namespace Go.Proofs.YtkphhjdbdnoekaaGreatDoor.Ab
open Go
set_option linter.unusedVariables false
set_option linter.unusedSimpArgs false
set_option linter.unnecessarySimpa false
def y6v:String:= "internal/strconv.uint64pow10"
def z7r (P:Program):Guard where
 G:=fun b=>P.globalNamed y6v=some b
 pre:=fun w=>Lib.TabIs P w y6v .u64 Lib.pow10Tab
 stable:=fun w w' h k=>by
  unfold Lib.TabIs World.var? at*;cases g:P.globalNamed y6v with
  | none=>rw[g] at k;simp at k | some b=>
   simp only[g,zOb] at k ⊢;rw[h b g];exact k
def y6b (n:Int):ByteArray:=⟨(Lib.itoa n).toArray⟩
def y7k (n:Int):Option ByteArray:=cond (decide (-9223372036854775808<=n)&&decide (n<=9223372036854775807)) (some (y6b n)) none
def y3d:Sig:= {ins:= .int .i64,inout:= [],out:= .str,nres:=1}
section
variable {P:Program} {C:Cx} {H:z0a} {B:List (Option Nat)} {w w' :World}
theorem HS.more (h:HS C H B w) (hsz:w.heap.size<=w'.heap.size) (hheap:∀b,b<w.heap.size->w'.heap[b]? =w.heap[b]?) (h1:w'.os=w.os) (h2:w'.tape=w.tape) (h3:w'.output=w.output):HS C H B w' :=by
 have hcells:∀rb cs0,Cells w rb cs0-> ∃cs',Cells w' rb cs' /\cs'.size=cs0.size:=by
  intro rb cs0 k;have:=k.lt;obtain⟨e,k⟩:=k;exact⟨cs0,⟨e,by rw[hheap rb this];exact k⟩,rfl⟩
 have s:Step (C.N B) (C.Np B) (C.N B) (C.Np B) H B w H B w' :=
  ⟨⟨hsz,fun b hb _=>hheap b hb,fun _ _ q=>q⟩,⟨hsz,fun b hb _=>hheap b hb,fun _ _ q=>q⟩,Au _,fun id _ cells e=>⟨⟨_,e⟩,rfl⟩,
   fun id _ p st t l e=>⟨_,_,_,_,e,Au _,fun _=>⟨rfl,rfl,rfl⟩⟩,hcells⟩
 exact {lenB:=h.lenB,nodup:=h.nodup,alloc:=fun i rb e=>⟨Bp (h.alloc i rb e).1 hsz,(h.alloc i rb e).2⟩,
        blk:=fun i b ob e1 e2=>(h.blk i b ob e1 e2).step s (fun rb e=>by subst e;exact hheap rb (h.alloc i rb e2).1),lb:=h.lb,lp:=h.lp,gl:=h.gl,gp:=h.gp,
        fr:=h.fr.trans' hsz (fun b hb hn=>hheap b (Bp hb h.fr.size)) hcells h1 h2 h3}
theorem y8a {ρ:Go.Shelf.Ren} (L:Go.Proofs.LaysM.n171 P ρ) {n:Int} {y:ByteArray} (h:y7k n=some y):z1n P (z7r P) (ρ.f 171) y3d n y:=by
 unfold y7k at h;cases hb:decide (-9223372036854775808<=n)&&decide (n<=9223372036854775807) with
 | false=>rw[hb] at h;cases h | true=>
  rw[hb] at h;simp only[Ad,Ac] at h;subst h;simp only[Ai,Ar] at hb;intro C B args hgd hs hc;have hs:HS C [] B C.w0:=hs;have hc:CRs (C.N B) (C.Np B) [] B C.w0 [.int .i64 n] args:=hc;simp only[CRs,CR] at hc;obtain⟨v,us,rfl,rfl,rfl⟩:=hc;have htab:Lib.TabIs P C.w0 y6v .u64 Lib.pow10Tab:=by
   have:=C.gd;have q:=hs.gp;rw[hgd] at q;exact q
  refine Calls.mono (Go.Proofs.Any.strconv_Itoa L n hb.1 hb.2 C.w0 htab) ?_
  rintro e w' ⟨rfl,k,os,rfl⟩
  have hh:=hs.more (w' :=Go.Sort.grow (C.w0.drewN k) os) (by show C.w0.heap.size<=(C.w0.heap++os).size;simp) (fun b hb=>by show(C.w0.heap++os)[b]? =_;rw[C6 hb]) rfl rfl rfl;exact⟨[],B, [.str (y6b n)], [.string (y6b n)], [],hh,by simp[CRs,CR,z0z,y3d],rfl,rfl,rfl⟩
end
end Go.Proofs.YtkphhjdbdnoekaaGreatDoor.Ab
