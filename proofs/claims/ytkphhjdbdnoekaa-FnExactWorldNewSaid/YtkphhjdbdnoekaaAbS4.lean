import Derived.Test.YtkphhjdbdnoekaaAbS2
import Derived.Test.YtkphhjdbdnoekaaAbE6
import Derived.Shelf.Strconv.Itoa3
namespace Go.Proofs.Ytkphhjdbdnoekaa.Ab
open Go
set_option linter.unusedVariables false
set_option linter.unusedSimpArgs false
set_option linter.unnecessarySimpa false
section
def y7x:String:= "internal/strconv.uint64pow10"
def y4d (P:Program):Guard where
 G:=fun b=>P.globalNamed y7x=some b
 pre:=fun w=>Lib.TabIs P w y7x .u64 Lib.pow10Tab
 stable:=fun w w' h k=>by
  unfold Lib.TabIs World.var? at*
  cases g:P.globalNamed y7x with
  | none=>rw[g] at k;simp at k
  | some b=>
   simp only[g,zOb] at k ⊢
   rw[h b g];exact k
def y5p (n:Int):ByteArray:=⟨(Lib.itoa n).toArray⟩
def y6v (n:Int):Option ByteArray:=cond (decide (-9223372036854775808≤n)&&decide (n≤9223372036854775807)) (some (y5p n)) none
def y2s:Sig:= {ins:= .int .i64,inout:= [],out:= .str,nres:=1}
section
variable {P:Program} {C:Cx} {H:z0a} {B:List (Option Nat)} {w w' :World}
theorem HS.more (h:HS C H B w) (hsz:w.heap.size≤w'.heap.size) (hheap:∀b,b<w.heap.size→w'.heap[b]? =w.heap[b]?) (h1:w'.os=w.os) (h2:w'.tape=w.tape) (h3:w'.output=w.output):HS C H B w' :=by
 have hcells:∀rb cs0,Cells w rb cs0→ ∃cs',Cells w' rb cs' ∧cs'.size=cs0.size:=by
  intro rb cs0 k
  have:=k.lt
  obtain⟨e,k⟩:=k
  exact⟨cs0,⟨e,by rw[hheap rb this];exact k⟩,rfl⟩
 have s:Step (C.N B) (C.Np B) (C.N B) (C.Np B) H B w H B w' :=
  ⟨⟨hsz,fun b hb _=>hheap b hb,fun _ _ q=>q⟩,⟨hsz,fun b hb _=>hheap b hb,fun _ _ q=>q⟩,Nat.le_refl _,fun id _ cells e=>⟨⟨_,e⟩,rfl⟩,
   fun id _ p st t l e=>⟨_,_,_,_,e,Nat.le_refl _,fun _=>⟨rfl,rfl,rfl⟩⟩,hcells⟩
 exact {lenB:=h.lenB,nodup:=h.nodup,alloc:=fun i rb e=>⟨Nat.lt_of_lt_of_le (h.alloc i rb e).1 hsz,(h.alloc i rb e).2⟩,
        blk:=fun i b ob e1 e2=>(h.blk i b ob e1 e2).step s (fun rb e=>by subst e;exact hheap rb (h.alloc i rb e2).1),lb:=h.lb,lp:=h.lp,gl:=h.gl,gp:=h.gp,
        fr:=h.fr.trans' hsz (fun b hb hn=>hheap b (Nat.lt_of_lt_of_le hb h.fr.size)) hcells h1 h2 h3}
theorem y7k {ρ:Go.Shelf.Ren} (L:Go.Proofs.LaysM.n171 P ρ) {n:Int} {y:ByteArray} (h:y6v n=some y):z2k P (y4d P) (ρ.f 171) y2s n y:=by
 unfold y6v at h
 cases hb:decide (-9223372036854775808≤n)&&decide (n≤9223372036854775807) with
 | false=>rw[hb] at h;cases h
 | true=>
  rw[hb] at h
  simp only[cond_true,Option.some.injEq] at h
  subst h
  simp only[Bool.and_eq_true,decide_eq_true_eq] at hb
  intro C B args hgd hs hc
  have hs:HS C [] B C.w0:=hs
  have hc:CRs (C.N B) (C.Np B) [] B C.w0 [.int .i64 n] args:=hc
  simp only[CRs,CR] at hc
  obtain⟨v,us,rfl,rfl,rfl⟩:=hc
  have htab:Lib.TabIs P C.w0 y7x .u64 Lib.pow10Tab:=by
   have:=C.gd
   have q:=hs.gp
   rw[hgd] at q
   exact q
  refine Calls.mono (Go.Proofs.Any.strconv_Itoa L n hb.1 hb.2 C.w0 htab) ?_
  rintro e w' ⟨rfl,k,os,rfl⟩
  have hh:=hs.more (w' :=Go.Sort.grow (C.w0.drewN k) os) (by show C.w0.heap.size≤(C.w0.heap++os).size;simp) (fun b hb=>by show(C.w0.heap++os)[b]? =_;rw[Array.getElem?_append_left hb]) rfl rfl rfl
  exact⟨[],B, [.str (y5p n)], [.string (y5p n)], [],hh,by simp[CRs,CR,z1c,y2s],rfl,rfl,rfl⟩
end
end
end Go.Proofs.Ytkphhjdbdnoekaa.Ab
