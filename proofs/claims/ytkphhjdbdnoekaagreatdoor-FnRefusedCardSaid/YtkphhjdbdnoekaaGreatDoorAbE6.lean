import Derived.Test.YtkphhjdbdnoekaaGreatDoorAbE5
namespace Go.Proofs.YtkphhjdbdnoekaaGreatDoor.Ab
open Go
set_option linter.unusedVariables false
set_option linter.unusedSimpArgs false
set_option linter.unnecessarySimpa false
section
variable {P:Program} {A:Ann} {V:Lvl A} {all:List Oper} {C:Cx} {env env' :List D} {H:z0a} {B:List (Option Nat)} {a:Act} {w w' :World}
theorem y4i (h:HS C H B w) {b:Nat} (hb:w.heap.size<=b): ¬C.Np B b:=by
 rintro(⟨i,k⟩ | k)
 .have:=(h.alloc i b k).1;omega
 .have:=h.lp b k;have:=h.fr.size;omega
theorem St.grow (h:St C env H B a w) (cs:Array Value) (el:TypeId):
 St C env H B a (w.alloc (.cells cs el))/\Goes (C.N B) (C.N B) w (w.alloc (.cells cs el))/\Goes (C.Np B) (C.Np B) w (w.alloc (.cells cs el)):=by
 have hheap:∀b,b<w.heap.size->(w.alloc (.cells cs el)).heap[b]? =w.heap[b]? :=fun b hb=>Go.RowKit.Below.heap_alloc w _ b hb
 have hsz:w.heap.size<=(w.alloc (.cells cs el)).heap.size:=by show w.heap.size<=(w.heap.push _).size;simp
 have hcells:∀rb cs0,Cells w rb cs0-> ∃cs',Cells (w.alloc (.cells cs el)) rb cs' /\cs'.size=cs0.size:=by
  intro rb cs0 k;have:=k.lt;obtain⟨e,k⟩:=k;exact⟨cs0,⟨e,by rw[hheap rb this];exact k⟩,rfl⟩
 have s:Step (C.N B) (C.Np B) (C.N B) (C.Np B) H B w H B (w.alloc (.cells cs el)):=
  ⟨⟨hsz,fun b hb _=>hheap b hb,fun _ _ q=>q⟩,⟨hsz,fun b hb _=>hheap b hb,fun _ _ q=>q⟩,Au _,fun id _ cells e=>⟨⟨_,e⟩,rfl⟩,
   fun id _ p st t l e=>⟨_,_,_,_,e,Au _,fun _=>⟨rfl,rfl,rfl⟩⟩,hcells⟩
 refine⟨h.go s {lenB:=h.lenB,nodup:=h.nodup,alloc:=fun i rb e=>⟨Bp (h.alloc i rb e).1 hsz,(h.alloc i rb e).2⟩,
                blk:=fun i b ob e1 e2=>(h.blk i b ob e1 e2).step s (fun rb e=>by subst e;exact hheap rb (h.alloc i rb e2).1),lb:=h.lb,lp:=h.lp,gl:=h.gl,gp:=h.gp,
                fr:=h.fr.trans' hsz (fun b hb hn=>hheap b (Bp hb h.fr.size)) hcells rfl rfl rfl},s.g,s.gp⟩
theorem y6e (ok:TyOk P A) (h:St C env H B a w) {o:Oper} {d:D} (e:z8l A env H o.op=some d):
 ∃v w',(execOp a.eval o).run P w= .ok (.value v) w' /\St C env H B a w' /\CR (C.N B) (C.Np B) H B w' d v:=by
 unfold z8l at e;split at e
 .rename_i t len parts ho;split at e
  .rename_i e0 ht;split at e
   .rename_i hlen;split at e
    .rename_i p l hf;simp only[Ac] at e;subst e;obtain⟨et,hu,hty⟩:=ok.sl _ _ ht;obtain⟨ie,z,hie,hs,hz,hzc,hb⟩:=ok.tyi _ _ hty;have hH0:=z3a (N:=pk p (C.N (killB B [])) (C.Np (killB B []))) (w:=w) e0 z hzc len;obtain⟨cs,m1,m2,m3⟩:=z7e h hf hH0;have hll:=(z3e hf).2.2;simp only[Fq] at hll;simp only[killB] at m2;have hzs:z.cells.size=e0.size:=by
      have:=(z1b (N:=fun _=>False) (w:=w) e0).len;rw[←B6,hzc];exact this
     have hrun:(Instr.buildSlice t len (parts.map fun(i,x)=>(i,a.eval x))).run P w= .ok (.slice (some ⟨w.heap.size,0,none⟩) len len) (w.alloc (.cells cs et)):=by
      have hparts:(parts.map fun(i,x)=>(i,a.eval x)).toList=parts.toList.map fun q=>(q.1,a.eval q.2):=by
       rw[Eg]
      have hsm: ¬len*ie.size >2^24:=by
       rw[hs];have:len*e0.size<=1024*64:=Ei hlen hb.2;omega
      rcases De len with h0 | h0
      .subst h0;have hr0:Array.range 0= #[] :=rfl;simp only[Nat.zero_mul,hr0,List.map_toArray,Eh] at m1;simp[Instr.buildSlice,run_underlying hu,z0b hie,hparts,hs,m1,newRow,hr0]
      .have hpos: ¬len*e0.size=0:=by
        have:=Nat.mul_pos h0 e0.size_pos;omega
       rw[hs] at hsm;have hz0:(zeroValue et).run P w= .ok z w:=by simp[zeroValue,typeInfo,hie,hz]
       simp only[Instr.buildSlice,Sem.run_bind,run_underlying hu,z0b hie,hs,Result.andThen_ok,Sem.run_ite,Ao hsm,Ao hpos,hz0,Sem.run_pure,hparts,m1];simp[newRow]
     have hcell:Cells (w.alloc (.cells cs et)) w.heap.size cs:=⟨et,by show(w.heap.push _)[w.heap.size]? =_;simp⟩;obtain⟨hst,q1,q2⟩:=h.grow cs et;refine⟨_,_,by simp only[execOp,ho];exact y3b hrun,hst,?_⟩;simp only[CR];refine⟨_,len,by rw[hll],by omega,?_⟩;by_cases hl0:l= []
     .exact .inl hl0
     .refine .inr ⟨w.heap.size,0,rfl,?_,hcell.lt,fun i hi=> ?_⟩
      .have:=y4i h.toHS (Au w.heap.size);cases p
       .exact fun k=>this (Cx.N_Np h.lb k)
       .exact this
      .obtain⟨us,k1,k2⟩:=m2.2 i hi;refine⟨us,?_,fun j hj=> ?_⟩
       .cases p
        .exact Dat.mono q1 k1
        .exact Dat.mono q2 k1
       .rw[z0c hcell,←k2 j hj];congr 1;omega
    .cases e
   .cases e
  .cases e
 .cases e
theorem z4k (h:St C env H B a w) {o:Oper} {c:Call} (ho:o.op= .call c) {f:Nat} {ds:List D} (hc0:z0s A env c=some (f,ds)) (hb:z4i P (A.fn f)):
 ∃args:List Value,CRs (C.N B) (C.Np B) H B w ds args/\(execOp a.eval o).run P w= .ok (.enter (A.fn f) args.toArray) w:=by
 have hc:=z4x hc0;unfold callee at hc;split at hc
 .rename_i g hg;split at hc
  .rename_i f' caps hf;simp only[Ac,Ak] at hc;obtain⟨hf0,rfl⟩:=hc;subst hf0;have hcr:=z0y h g;rw[hf] at hcr;simp only[CR] at hcr;obtain⟨vs,hv,hcs⟩:=hcr;obtain⟨fn,b1,b2,b3⟩:=hb;refine⟨c.args.toList.map a.eval++vs.toList,(z9l h c.args.toList).append hcs,?_⟩;have hargs:(c.args.toList.map a.eval++vs.toList).toArray=c.args.map a.eval++vs:=by
    apply Fj;simp
   have b2' : ¬fn.name= "runtime.NumGoroutine" :=by simpa using b2
   have b3' : ¬fn.body=none:=by intro q;rw[q] at b3;cases b3
   simp[execOp,ho,resolve,hg,hv,Deferred.ofValue,invoke,callFunc,b1,b2',b3',hargs]
  .cases hc
 .cases hc
theorem y3p (ok:TyOk P A) (hV:LvlOk P A V) (hgd:C.gd=A.gd) (h:St C env H B a w) {o:Oper} {d:D} (hn:NV A V H env o d) {K:Act->World->Prop} {Q:Exit->Act->World->Prop}
 (hK:∀v w',St C env H B a w' ->CR (C.N B) (C.Np B) H B w' d v->K (a.put o.dst v) w'):o.wp P a w K Q:=by
 rcases hn with e | e | ⟨c,f,ds,ho,hc,hd⟩
 .obtain⟨v,h1,h2⟩:=y4z ok h e rfl;simp only[Oper.wp,h1,Oper.upon];exact hK v w h h2
 .obtain⟨v,w',h1,h2,h3⟩:=y6e ok h e;simp only[Oper.wp,h1,Oper.upon];exact hK v w' h2 h3
 .have hb:z4i P (A.fn f):=by obtain⟨x,u,y,_,_,hy,_⟩:=hd;exact(hV f x y hy).1
  obtain⟨args,h1,h2⟩:=z4k h ho hc hb;simp only[Oper.wp,h2,Oper.upon];refine Calls.mono (y3t hV hgd h h1 hd).2 ?_
  rintro e w' ⟨v,rfl,h3,h4⟩
  exact hK v w' h3 h4
end
end Go.Proofs.YtkphhjdbdnoekaaGreatDoor.Ab
