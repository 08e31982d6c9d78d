import Derived.Test.YtkphhjdbdnoekaaGreatAbS2
import Derived.Test.YtkphhjdbdnoekaaGreatAbE6
import Derived.Shelf.Strconv.Itoa3
namespace Go.Proofs.YtkphhjdbdnoekaaGreat.Ab
open Go
set_option linter.unusedVariables false
set_option linter.unusedSimpArgs false
set_option linter.unnecessarySimpa false
section
variable {P:Program} {C:Cx} {H:z0a} {B:List (Option Nat)} {w w' :World}
theorem HS.more (h:HS C H B w) (hsz:w.heap.size<=w'.heap.size) (hheap:∀b,b<w.heap.size->w'.heap[b]? =w.heap[b]?) (h1:w'.os=w.os) (h2:w'.tape=w.tape) (h3:w'.output=w.output):HS C H B w' :=by
 have hcells:∀rb cs0,Cells w rb cs0-> ∃cs',Cells w' rb cs' /\cs'.size=cs0.size:=by
  intro rb cs0 k;have:=k.lt;obtain⟨e,k⟩:=k;exact⟨cs0,⟨e,by rw[hheap rb this];exact k⟩,rfl⟩
 have s:Step (C.N B) (C.Np B) (C.N B) (C.Np B) H B w H B w' :=
  ⟨⟨hsz,fun b hb _=>hheap b hb,fun _ _ q=>q⟩,⟨hsz,fun b hb _=>hheap b hb,fun _ _ q=>q⟩,Au _,fun id _ cells e=>⟨⟨_,e⟩,rfl⟩,
   fun id _ p st t l e=>⟨_,_,_,_,e,Au _,fun _=>⟨rfl,rfl,rfl⟩⟩,hcells⟩
 exact {lenB:=h.lenB,nodup:=h.nodup,alloc:=fun i rb e=>⟨Bp (h.alloc i rb e).1 hsz,(h.alloc i rb e).2⟩,
        blk:=fun i b ob e1 e2=>(h.blk i b ob e1 e2).step s (fun rb e=>by subst e;exact hheap rb (h.alloc i rb e2).1),lb:=h.lb,lp:=h.lp,gl:=h.gl,gp:=h.gp,
        fr:=h.fr.trans' hsz (fun b hb hn=>hheap b (Bp hb h.fr.size)) hcells h1 h2 h3}
end
end Go.Proofs.YtkphhjdbdnoekaaGreat.Ab
